/- A convolution as a plain function. No program in sight. -/
import Derived.Test.YtlkocedhhdknoaaShareLaw
namespace Go.Proofs.Ytlkocedhhdknoaa
set_option linter.unusedVariables false

/-- What the first i volumes bring to element m; .. the first k shares of volume i besides. -/
def cvF (vs us : List Int) : Nat → Nat → Int
  | 0, _ => 0
  | i + 1, m => cvF vs us i m + (if i ≤ m ∧ m < i + us.length then shF (el vs i) us (m - i) else 0)
def cvM (vs us : List Int) (i k m : Nat) : Int := cvF vs us i m + (if i ≤ m ∧ m < i + k then shF (el vs i) us (m - i) else 0)
theorem cvM_zero (vs us : List Int) (i m : Nat) : cvM vs us i 0 m = cvF vs us i m := by unfold cvM; rw [if_neg (by omega), Int.add_zero]
theorem cvM_all (vs us : List Int) (i m : Nat) : cvM vs us i us.length m = cvF vs us (i + 1) m := rfl
theorem cvM_step (vs us : List Int) (i k m : Nat) : (if m = i + k then cvM vs us i k (i + k) + shF (el vs i) us k else cvM vs us i k m) = cvM vs us i (k + 1) m := by
  unfold cvM
  by_cases h : m = i + k
  · subst h
    rw [if_pos rfl, if_neg (by omega), if_pos (by omega), Int.add_zero, show i + k - i = k by omega]
  · rw [if_neg h]
    by_cases h2 : i ≤ m ∧ m < i + k
    · rw [if_pos h2, if_pos (by omega)]
    · rw [if_neg h2, if_neg (by omega)]
theorem shF_zero (us : List Int) (k : Nat) : shF 0 us k = 0 := by unfold shF; simp
theorem cv_skip {vs us : List Int} {i : Nat} (h : el vs i = 0) (m : Nat) : cvF vs us i m = cvF vs us (i + 1) m := by
  rw [cvF, h]
  split
  · rw [shF_zero, Int.add_zero]
  · rw [Int.add_zero]

/-- Right volumes and weights. -/
structure ConvOk (vs us : List Int) : Prop where
  v : seriesB vs = true
  u : validB us = true
theorem valid_parts {us : List Int} (h : validB us = true) : 1 ≤ us.length ∧ us.length ≤ 1000 ∧ inB 1073741824 us = true ∧ el us (us.length - 1) ≠ 0 := by
  unfold validB at h
  simp at h
  exact ⟨by omega, by omega, h.2.2.1, h.2.2.2⟩
theorem series_parts {vs : List Int} (h : seriesB vs = true) : vs.length ≤ 10000 ∧ inB 1125899906842624 vs = true := by
  unfold seriesB at h
  simp at h
  exact h
theorem inB_mono {m m' : Int} {zs : List Int} (h : inB m zs = true) (hm : m ≤ m') : inB m' zs = true :=
  inB_iff.2 fun z hz => ⟨(inB_iff.1 h z hz).1, Int.le_trans (inB_iff.1 h z hz).2 hm⟩
theorem share_ok {us : List Int} (h : validB us = true) {t : Int} (h0 : 0 ≤ t) (h1 : t ≤ 1125899906842624) : ShareOk t us := by
  obtain ⟨l0, l1, hin, hlast⟩ := valid_parts h
  have hb := sumF_bd (F := el us) (n := us.length) (m := 1073741824) (fun k hk => inB_el hin hk)
  refine ⟨by omega, h0, h1, inB_mono hin (by omega), ?_, ?_⟩
  · have h2 : el us (us.length - 1) ≤ sumF (el us) us.length := by
      obtain ⟨n, hn⟩ : ∃ n, us.length = n + 1 := ⟨us.length - 1, by omega⟩
      rw [hn, Nat.add_sub_cancel, sumF]
      have := sumF_nonneg (F := el us) (n := n) (fun k hk => (inB_el hin (by omega)).1)
      omega
    have h3 := (inB_el hin (show us.length - 1 < us.length by omega)).1
    unfold sumL; omega
  · unfold sumL
    have : (us.length : Int) * 1073741824 ≤ 1000 * 1073741824 := Int.mul_le_mul_of_nonneg_right (by omega) (by omega)
    omega
section
variable {vs us : List Int} (h : ConvOk vs us)
include h
theorem conv_share {i : Nat} (hi : i < vs.length) : ShareOk (el vs i) us :=
  share_ok h.u (inB_el (series_parts h.v).2 hi).1 (inB_el (series_parts h.v).2 hi).2
theorem conv_sh {i k : Nat} (hi : i < vs.length) (hk : k < us.length) : 0 ≤ shF (el vs i) us k ∧ shF (el vs i) us k ≤ 1125899906842624 := by
  have h1 := shF_bd (conv_share h hi) hk
  have h2 := (inB_el (series_parts h.v).2 hi).2
  omega
theorem cvF_bd {i : Nat} (hi : i ≤ vs.length) (m : Nat) : 0 ≤ cvF vs us i m ∧ cvF vs us i m ≤ ((min i (m + 1) - (m + 1 - us.length) : Nat) : Int) * 1125899906842624 := by
  induction i with
  | zero => rw [cvF]; exact ⟨Int.le_refl _, by simp⟩
  | succ i ih =>
    obtain ⟨h1, h2⟩ := ih (by omega)
    rw [cvF]
    by_cases hc : i ≤ m ∧ m < i + us.length
    · rw [if_pos hc]
      have h3 := conv_sh h (show i < vs.length by omega) (show m - i < us.length by omega)
      have e1 : min (i + 1) (m + 1) - (m + 1 - us.length) = (min i (m + 1) - (m + 1 - us.length)) + 1 := by omega
      rw [e1, Int.natCast_add, Int.add_mul]
      omega
    · rw [if_neg hc, Int.add_zero]
      refine ⟨h1, Int.le_trans h2 ?_⟩
      exact Int.mul_le_mul_of_nonneg_right (by omega) (by omega)
theorem cvF_le {i : Nat} (hi : i ≤ vs.length) (m : Nat) : 0 ≤ cvF vs us i m ∧ cvF vs us i m ≤ 1125899906842624000 := by
  obtain ⟨h1, h2⟩ := cvF_bd h hi m
  have hu := (valid_parts h.u).2.1
  refine ⟨h1, Int.le_trans h2 ?_⟩
  have : ((min i (m + 1) - (m + 1 - us.length) : Nat) : Int) * 1125899906842624 ≤ 1000 * 1125899906842624 := Int.mul_le_mul_of_nonneg_right (by omega) (by omega)
  omega
theorem cvM_le {i k : Nat} (hi : i < vs.length) (hk : k ≤ us.length) (m : Nat) : 0 ≤ cvM vs us i k m ∧ cvM vs us i k m ≤ 1127025806749466624 := by
  have h1 := cvF_le h (show i ≤ vs.length by omega) m
  unfold cvM
  split
  · rename_i hc
    have h3 := conv_sh h hi (show m - i < us.length by omega)
    omega
  · omega
end
/-- The elements of a convolution. -/
def cvL (vs us : List Int) : List Int := fl (vs.length + us.length - 1) (cvF vs us vs.length)
theorem cvL_length (vs us : List Int) : (cvL vs us).length = vs.length + us.length - 1 := fl_length _ _
/-- The convolution, if no element is too great. -/
def cvR (vs us : List Int) : List Int × Int := if inB 1125899906842624 (cvL vs us) = false then ([], 5) else (cvL vs us, 0)
/-- The list, and the error number. -/
def ConvV (vs us : List Int) : List Int × Int :=
  if seriesB vs = false ∨ validB us = false then ([], 1) else if vs.length = 0 then ([], 0) else if 10000 < vs.length + us.length - 1 then ([], 4) else cvR vs us
end Go.Proofs.Ytlkocedhhdknoaa
