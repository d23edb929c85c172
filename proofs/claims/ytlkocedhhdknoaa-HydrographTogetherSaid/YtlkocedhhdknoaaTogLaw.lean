/- Steps together: the curve; the sum of a cascade; the peak of a triangle. No program in sight. -/
import Derived.Test.YtlkocedhhdknoaaLongLaw
import Derived.Test.YtlkocedhhdknoaaSeriesLaw
import Derived.Test.YtlkocedhhdknoaaLawB
namespace Go.Proofs.Ytlkocedhhdknoaa
set_option linter.unusedVariables false

/-- The curve at an integer. -/
def atV (us : List Int) (i : Int) : Int := if i < 0 then 0 else sumF (el us) (min (i.toNat + 1) us.length)
theorem atV_neg {us : List Int} {i : Int} (h : i < 0) : atV us i = 0 := if_pos h
theorem atV_nat (us : List Int) (i : Nat) : atV us (i : Int) = sumF (el us) (min (i + 1) us.length) := by
  unfold atV; rw [if_neg (by omega), Int.toNat_natCast]
theorem atV_el {us : List Int} (hu : 1 ≤ us.length) (i : Nat) : el (curveL us) (min i (us.length - 1)) = atV us i := by
  have e : el (curveL us) (min i (us.length - 1)) = sumF (el us) (min i (us.length - 1) + 1) := el_fl _ (by omega)
  rw [e, atV_nat, show min i (us.length - 1) + 1 = min (i + 1) us.length by omega]
theorem long_at {us : List Int} {k m : Nat} (hm : m < us.length + k - 1) : el (longL us k) m = atV us m - atV us ((m : Int) - k) := by
  have e : el (longL us k) m = lgF us k us.length m := el_fl _ hm
  rw [e, atV_nat]
  unfold lgF
  by_cases h : m < k
  · rw [atV_neg (by omega), show min us.length (m + 1 - k) = 0 by omega, Nat.min_comm]; rfl
  · rw [show (m : Int) - k = ((m - k : Nat) : Int) by omega, atV_nat, Nat.min_comm us.length (m + 1), Nat.min_comm us.length (m + 1 - k), show m + 1 - k = m - k + 1 by omega]
theorem curve_last {us : List Int} (hu : 1 ≤ us.length) : el (curveL us) (us.length - 1) = sumL us := by
  have e : el (curveL us) (us.length - 1) = sumF (el us) (us.length - 1 + 1) := el_fl _ (by omega)
  rw [e, show us.length - 1 + 1 = us.length by omega]; rfl
theorem atV_bd {us : List Int} (h : validB us = true) (i : Int) : 0 ≤ atV us i ∧ atV us i ≤ 1073741824000 := by
  unfold atV
  split
  · omega
  · exact w_sum h (by omega)
theorem cas_len (k : Int) (m s : Nat) : (casL k m s).length = s + 1 := fl_length _ _
theorem sum_casL (k : Int) (m s : Nat) : sumL (casL k m s) = 1073741824 := by
  unfold sumL
  rw [cas_len, show sumF (el (casL k m s)) (s + 1) = sumF (casF k m s) (s + 1) from sumF_congr (fun t ht => el_fl _ ht)]
  exact sum_cas k m s
theorem cas_inB {k : Int} (hk : 1 ≤ k) (m s : Nat) : inB 1125899906842624 (casL k m s) = true := by
  apply in_all
  intro t ht
  rw [cas_len] at ht
  have : el (casL k m s) t = casF k m s t := el_fl _ ht
  have hb := cas_in hk m s ht
  rw [this]; unfold badB
  rw [decide_eq_false (by omega), decide_eq_false (by omega)]; rfl
theorem pkI_is {zs : List Int} {q : Nat} (h1 : ∀ j, j < q → el zs j < el zs q) : ∀ m, q ≤ m → (∀ j, q < j → j ≤ m → el zs j ≤ el zs q) → pkI zs m = q := by
  have hlt : ∀ m, m < q → pkI zs m ≤ m := fun m _ => pkI_le zs m
  intro m
  induction m with
  | zero => intro hq _; rw [pkI]; omega
  | succ m ih =>
    intro hq h2
    rw [pkI]
    by_cases hqm : q = m + 1
    · subst hqm
      rw [if_pos (h1 _ (by have := pkI_le zs m; omega))]
    · rw [ih (by omega) (fun j hj hj2 => h2 j hj (by omega)), if_neg]
      have := h2 (m + 1) (by omega) (by omega)
      omega
theorem tri_el {r f : Int} {K k : Nat} (hk : k < K) : el (triL r f K) k = triE r f ((k : Int) + 1) := by
  unfold triL el; rw [List.getD_eq_getElem?_getD, List.getElem?_map, List.getElem?_range hk]; rfl
theorem tri_peak {r f : Int} (h : triOk r f) : PeakV (triL r f (r + f - 1).toNat) = (r * f, r - 1, 0) := by
  obtain ⟨hr0, hr, hf0, hf⟩ := h
  have hlen := triL_length r f (r + f - 1).toNat
  have hin : inB 1125899906842624 (triL r f (r + f - 1).toNat) = true := by
    apply in_all
    intro k hk
    rw [hlen] at hk
    have hb := tri_bd (i := (k : Int) + 1) hr0 hr hf0 hf (by omega) (by omega)
    rw [tri_el hk]
    unfold badB triE
    rw [decide_eq_false (by omega), decide_eq_false (by omega)]; rfl
  have hser : seriesB (triL r f (r + f - 1).toNat) = true := by
    unfold seriesB; rw [hin, hlen, decide_eq_true (by omega)]; rfl
  have hq : (((r - 1).toNat : Nat) : Int) + 1 = r := by omega
  have etop : el (triL r f (r + f - 1).toNat) (r - 1).toNat = r * f := by
    rw [tri_el (by omega), hq, tri_lo hf0 hr0 (Int.le_refl r)]
  have hpk : pkI (triL r f (r + f - 1).toNat) ((r + f - 1).toNat - 1) = (r - 1).toNat := by
    apply pkI_is
    · intro j hj
      rw [etop, tri_el (by omega), tri_lo hf0 hr0 (by omega)]
      have := Int.mul_le_mul_of_nonneg_right (show (j : Int) + 1 ≤ r - 1 by omega) (show 0 ≤ f by omega)
      rw [Int.sub_mul] at this
      omega
    · omega
    · intro j hj hj2
      rw [etop, tri_el (by omega), tri_hi hf0 hr0 (by omega), Int.mul_comm]
      exact Int.mul_le_mul_of_nonneg_left (by omega) (by omega)
  unfold PeakV
  rw [hser, if_neg (by decide), hlen, if_neg (by omega), hpk, etop]
  congr 2
  omega
end Go.Proofs.Ytlkocedhhdknoaa
