/- No volume is lost in a convolution; one weight, one volume. No program in sight. -/
import Derived.Test.YtlkocedhhdknoaaConvLaw
namespace Go.Proofs.Ytlkocedhhdknoaa
set_option linter.unusedVariables false

theorem sumF_add (F G : Nat → Int) (n : Nat) : sumF (fun m => F m + G m) n = sumF F n + sumF G n := by
  induction n with
  | zero => rfl
  | succ n ih => rw [sumF, sumF, sumF, ih]; omega
theorem sumF_zero (n : Nat) : sumF (fun _ => (0 : Int)) n = 0 := by
  induction n with
  | zero => rfl
  | succ n ih => rw [sumF, ih]; rfl
theorem sumF_shift (f : Nat → Int) (i nu M : Nat) : sumF (fun m => if i ≤ m ∧ m < i + nu then f (m - i) else 0) M = sumF f (min nu (M - i)) := by
  induction M with
  | zero => rw [show min nu (0 - i) = 0 by omega]; rfl
  | succ M ih =>
    rw [sumF, ih]
    by_cases h : i ≤ M ∧ M < i + nu
    · rw [if_pos h, show min nu (M + 1 - i) = (M - i) + 1 by omega, show min nu (M - i) = M - i by omega, sumF]
    · rw [if_neg h, Int.add_zero, show min nu (M + 1 - i) = min nu (M - i) by omega]
section
variable {vs us : List Int} (h : ConvOk vs us)
include h
theorem sum_cv {i M : Nat} (hi : i ≤ vs.length) (hM : i + us.length ≤ M + 1) : sumF (cvF vs us i) M = sumF (el vs) i := by
  induction i with
  | zero => rw [show sumF (cvF vs us 0) M = sumF (fun _ => 0) M from sumF_congr (fun k _ => rfl), sumF_zero]; rfl
  | succ i ih =>
    have e : sumF (cvF vs us (i + 1)) M = sumF (fun m => cvF vs us i m + (if i ≤ m ∧ m < i + us.length then shF (el vs i) us (m - i) else 0)) M := rfl
    rw [e, sumF_add, ih (by omega) (by omega), sumF_shift, show min us.length (M - i) = us.length by omega, sumF]
    have hs := sum_share (conv_share h (show i < vs.length by omega))
    unfold sumL at hs
    rw [shL_length, show sumF (el (shL (el vs i) us)) us.length = sumF (shF (el vs i) us) us.length from sumF_congr (fun k hk => el_fl _ hk)] at hs
    rw [hs]
theorem sum_conv (hn : 0 < vs.length) : sumL (cvL vs us) = sumL vs := by
  have hu := (valid_parts h.u).1
  unfold sumL
  rw [cvL_length, show sumF (el (cvL vs us)) (vs.length + us.length - 1) = sumF (cvF vs us vs.length) (vs.length + us.length - 1) from sumF_congr (fun k hk => el_fl _ hk)]
  exact sum_cv h (Nat.le_refl _) (by omega)
end
/-- One weight. -/
theorem sh_one {v u : Int} (hu : 0 < u) : shF v [u] 0 = v := by
  have e : sumF (el [u]) 1 = u := by simp [sumF, el]
  have e2 : sumL [u] = u := e
  unfold shF
  rw [e, e2, Int.mul_ediv_cancel _ (Int.ne_of_gt hu)]
  simp [sumF]
theorem cv_one {vs : List Int} {u : Int} (hu : 0 < u) (i m : Nat) : cvF vs [u] i m = if m < i then el vs m else 0 := by
  induction i with
  | zero => rw [cvF, if_neg (by omega)]
  | succ i ih =>
    rw [cvF, ih]
    by_cases h : m = i
    · subst h
      rw [if_neg (by omega), if_pos ⟨Nat.le_refl _, by simp⟩, if_pos (by omega), Nat.sub_self, sh_one hu, Int.zero_add]
    · rw [if_neg (show ¬ (i ≤ m ∧ m < i + [u].length) by simp; omega), Int.add_zero]
      by_cases h2 : m < i
      · rw [if_pos h2, if_pos (by omega)]
      · rw [if_neg h2, if_neg (by omega)]
theorem cvL_one {vs : List Int} {u : Int} (hu : 0 < u) : cvL vs [u] = vs := by
  unfold cvL
  rw [show vs.length + [u].length - 1 = vs.length by simp]
  apply ext_el (fl_length _ _)
  intro k hk
  rw [fl_length] at hk
  rw [el_fl _ hk, cv_one hu, if_pos hk]
theorem valid_one {u : Int} (h0 : 0 < u) (h1 : u ≤ 1073741824) : validB [u] = true := by
  have hin : inB 1073741824 [u] = true := inB_iff.2 (by simp; omega)
  unfold validB
  rw [hin]
  have : (el [u] ([u].length - 1) == 0) = false := by rw [beq_eq_false_iff_ne]; simp [el]; omega
  rw [this]; simp
theorem drop_last {us : List Int} (h : 0 < us.length) : us.drop (us.length - 1) = [el us (us.length - 1)] := by
  apply List.ext_getElem
  · simp; omega
  · intro i h1 h2
    simp at h2
    subst h2
    simp [el]
    rw [List.getElem?_eq_getElem (by omega)]; rfl
theorem conv_last {vs us : List Int} (h : ConvOk vs us) (hn : 0 < vs.length) (hm : vs.length ≤ 60) : ConvV vs (us.drop (us.length - 1)) = (vs, 0) := by
  obtain ⟨l0, l1, hin, hlast⟩ := valid_parts h.u
  have hb := inB_el hin (show us.length - 1 < us.length by omega)
  rw [drop_last (by omega)]
  generalize el us (us.length - 1) = u at *
  have hu : 0 < u := by omega
  unfold ConvV cvR
  rw [if_neg (by rw [h.v, valid_one hu hb.2]; decide), if_neg (by omega), if_neg (by simp; omega), cvL_one hu, (series_parts h.v).2, if_neg (by decide)]
/-- One volume. -/
theorem cvL_first {v : Int} {us : List Int} (h : 0 < us.length) : cvL [v] us = shL v us := by
  unfold cvL shL
  rw [show [v].length + us.length - 1 = us.length by simp]
  apply fl_congr
  intro k hk
  rw [show ([v] : List Int).length = 0 + 1 from rfl, cvF, cvF, if_pos ⟨Nat.zero_le _, by omega⟩]
  simp [el]
theorem conv_first {vs us : List Int} (h : ConvOk vs us) (hn : 0 < vs.length) : ConvV (vs.take 1) us = (shL (el vs 0) us, 0) := by
  obtain ⟨l0, l1, hin, hlast⟩ := valid_parts h.u
  have e : vs.take 1 = [el vs 0] := by have := take_succ_el vs 0 hn; simpa using this
  have hb := inB_el (series_parts h.v).2 hn
  have hs : ShareOk (el vs 0) us := conv_share h hn
  rw [e]
  generalize el vs 0 = v at *
  have hser : seriesB [v] = true := by
    have : inB 1125899906842624 [v] = true := inB_iff.2 (by simp; omega)
    unfold seriesB; rw [this]; simp
  have hsh : inB 1125899906842624 (shL v us) = true := by
    apply in_all
    intro k hk
    rw [shL_length] at hk
    have h1 := shF_bd hs hk
    rw [show el (shL v us) k = shF v us k from el_fl _ hk]
    unfold badB
    rw [decide_eq_false (by omega), decide_eq_false (by omega)]; rfl
  unfold ConvV cvR
  rw [if_neg (by rw [hser, h.u]; decide), if_neg (by simp), if_neg (by simp; omega), cvL_first (by omega), hsh, if_neg (by decide)]
/-- Partial sums of right volumes. -/
theorem sum_bd {vs : List Int} {N : Nat} (h : inB 1125899906842624 vs = true) (hl : vs.length ≤ N) (hN : N ≤ 1000) (k : Nat) (hk : k ≤ vs.length) : -4611686018427387904 ≤ sumF (el vs) k ∧ sumF (el vs) k ≤ 4611686018427387904 := by
  have hb := sumF_bd (F := el vs) (n := k) (m := 1125899906842624) (fun j hj => inB_el h (by omega))
  have : (k : Int) * 1125899906842624 ≤ 1000 * 1125899906842624 := Int.mul_le_mul_of_nonneg_right (by omega) (by omega)
  omega
end Go.Proofs.Ytlkocedhhdknoaa
