/- The S-curve, and the unit hydrograph of k steps together, as plain functions. No program in sight. -/
import Derived.Test.YtlkocedhhdknoaaLosesLaw
namespace Go.Proofs.Ytlkocedhhdknoaa
set_option linter.unusedVariables false

def curveL (us : List Int) : List Int := fl us.length (fun k => sumF (el us) (k + 1))
theorem curveL_length (us : List Int) : (curveL us).length = us.length := fl_length _ _
theorem el_take {zs : List Int} {k j : Nat} (h : j < k) : el (zs.take k) j = el zs j := by
  unfold el; rw [List.getD_eq_getElem?_getD, List.getD_eq_getElem?_getD, List.getElem?_take, if_pos h]
theorem sumF_take {zs : List Int} {k j : Nat} (h : j ≤ k) : sumF (el (zs.take k)) j = sumF (el zs) j := sumF_congr fun i hi => el_take (by omega)
theorem sumL_take {zs : List Int} {k : Nat} (h : k ≤ zs.length) : sumL (zs.take k) = sumF (el zs) k := by
  unfold sumL; rw [List.length_take, show min k zs.length = k by omega]; exact sumF_take (Nat.le_refl _)
theorem w_sum {us : List Int} (h : validB us = true) {k : Nat} (hk : k ≤ us.length) : 0 ≤ sumF (el us) k ∧ sumF (el us) k ≤ 1073741824000 := by
  obtain ⟨l0, l1, hin, _⟩ := valid_parts h
  have hb := sumF_bd (F := el us) (n := k) (m := 1073741824) (fun j hj => inB_el hin (by omega))
  have : (k : Int) * 1073741824 ≤ 1000 * 1073741824 := Int.mul_le_mul_of_nonneg_right (by omega) (by omega)
  omega

/-- Element m when the first n weights are laid k steps each. -/
def lgF (us : List Int) (k n m : Nat) : Int := sumF (el us) (min n (m + 1)) - sumF (el us) (min n (m + 1 - k))
/-- .. and the first j steps of weight n besides. -/
def lgM (us : List Int) (k n j m : Nat) : Int := lgF us k n m + (if n ≤ m ∧ m < n + j then el us n else 0)
theorem lgM_zero (us : List Int) (k n m : Nat) : lgM us k n 0 m = lgF us k n m := by unfold lgM; rw [if_neg (by omega), Int.add_zero]
theorem lgF_zero (us : List Int) (k m : Nat) : lgF us k 0 m = 0 := by unfold lgF; simp
theorem lgM_all (us : List Int) (k n m : Nat) : lgM us k n k m = lgF us k (n + 1) m := by
  unfold lgM lgF
  by_cases h1 : n ≤ m
  · by_cases h2 : m < n + k
    · rw [if_pos ⟨h1, h2⟩, show min n (m + 1) = n by omega, show min (n + 1) (m + 1) = n + 1 by omega, show min n (m + 1 - k) = m + 1 - k by omega, show min (n + 1) (m + 1 - k) = m + 1 - k by omega, sumF]; omega
    · rw [if_neg (by omega), show min n (m + 1) = n by omega, show min (n + 1) (m + 1) = n + 1 by omega, show min n (m + 1 - k) = n by omega, show min (n + 1) (m + 1 - k) = n + 1 by omega]; omega
  · rw [if_neg (by omega), show min n (m + 1) = m + 1 by omega, show min (n + 1) (m + 1) = m + 1 by omega, show min n (m + 1 - k) = m + 1 - k by omega, show min (n + 1) (m + 1 - k) = m + 1 - k by omega]; omega
theorem lgM_step (us : List Int) (k n j m : Nat) : (if m = n + j then lgM us k n j (n + j) + el us n else lgM us k n j m) = lgM us k n (j + 1) m := by
  unfold lgM
  by_cases h : m = n + j
  · subst h
    rw [if_pos rfl, if_neg (by omega), if_pos (by omega), Int.add_zero]
  · rw [if_neg h]
    by_cases h2 : n ≤ m ∧ m < n + j
    · rw [if_pos h2, if_pos (by omega)]
    · rw [if_neg h2, if_neg (by omega)]
/-- The other order: after j steps of all weights; .. and the first i weights of step j besides. -/
def lhF (us : List Int) (j m : Nat) : Int := lgF us j us.length m
def lhM (us : List Int) (j i m : Nat) : Int := lhF us j m + (if j ≤ m ∧ m < j + i then el us (m - j) else 0)
theorem lhM_zero (us : List Int) (j m : Nat) : lhM us j 0 m = lhF us j m := by unfold lhM; rw [if_neg (by omega), Int.add_zero]
theorem lhF_zero (us : List Int) (m : Nat) : lhF us 0 m = 0 := by unfold lhF lgF; rw [Nat.sub_zero]; omega
theorem lhM_all (us : List Int) (j m : Nat) : lhM us j us.length m = lhF us (j + 1) m := by
  unfold lhM lhF lgF
  by_cases h1 : j ≤ m
  · by_cases h2 : m < j + us.length
    · rw [if_pos ⟨h1, h2⟩, show min us.length (m + 1 - j) = (m - j) + 1 by omega, show min us.length (m + 1 - (j + 1)) = m - j by omega, sumF]; omega
    · rw [if_neg (by omega), show min us.length (m + 1 - j) = us.length by omega, show min us.length (m + 1 - (j + 1)) = us.length by omega]; omega
  · rw [if_neg (by omega), show min us.length (m + 1 - j) = 0 by omega, show min us.length (m + 1 - (j + 1)) = 0 by omega]; omega
theorem lhM_step (us : List Int) (j i m : Nat) : (if m = j + i then lhM us j i (j + i) + el us i else lhM us j i m) = lhM us j (i + 1) m := by
  unfold lhM
  by_cases h : m = j + i
  · subst h
    rw [if_pos rfl, if_neg (by omega), if_pos (by omega), Int.add_zero, show j + i - j = i by omega]
  · rw [if_neg h]
    by_cases h2 : j ≤ m ∧ m < j + i
    · rw [if_pos h2, if_pos (by omega)]
    · rw [if_neg h2, if_neg (by omega)]
section
variable {us : List Int} (h : validB us = true)
include h
theorem w_mono {a b : Nat} (hab : a ≤ b) (hb : b ≤ us.length) : sumF (el us) a ≤ sumF (el us) b := by
  obtain ⟨l0, l1, hin, _⟩ := valid_parts h
  have : ∀ j, 0 ≤ el us j := fun j => by
    by_cases hj : j < us.length
    · exact (inB_el hin hj).1
    · unfold el; rw [List.getD_eq_getElem?_getD, List.getElem?_eq_none (by omega)]; exact Int.le_refl _
  exact sumF_mono this hab
theorem lgF_bd {n : Nat} (hn : n ≤ us.length) (k m : Nat) : 0 ≤ lgF us k n m ∧ lgF us k n m ≤ 1073741824000 := by
  have h1 := w_sum h (show min n (m + 1) ≤ us.length by omega)
  have h2 := w_sum h (show min n (m + 1 - k) ≤ us.length by omega)
  have h3 := w_mono h (show min n (m + 1 - k) ≤ min n (m + 1) by omega) (by omega)
  unfold lgF; omega
theorem lgM_bd {n : Nat} (hn : n < us.length) (k j m : Nat) : 0 ≤ lgM us k n j m ∧ lgM us k n j m ≤ 1074815565824 := by
  have h1 := lgF_bd h (show n ≤ us.length by omega) k m
  have h2 := inB_el (valid_parts h).2.2.1 hn
  unfold lgM; split <;> omega
theorem lhM_bd {i : Nat} (hi : i ≤ us.length) (j m : Nat) : 0 ≤ lhM us j i m ∧ lhM us j i m ≤ 1074815565824 := by
  have h1 := lgF_bd h (Nat.le_refl _) j m
  unfold lhM lhF
  split
  · have h2 := inB_el (valid_parts h).2.2.1 (show m - j < us.length by omega)
    omega
  · omega
end
def longL (us : List Int) (k : Nat) : List Int := fl (us.length + k - 1) (lgF us k us.length)
theorem longL_length (us : List Int) (k : Nat) : (longL us k).length = us.length + k - 1 := fl_length _ _
def longR (us : List Int) (k : Nat) : List Int × Int := if inB 1073741824 (longL us k) = false then ([], 5) else (longL us k, 0)
/-- The list, and the error number. -/
def LongV (us : List Int) (k : Int) : List Int × Int :=
  if validB us = false then ([], 1) else if ¬ (1 ≤ k ∧ k ≤ 1000) then ([], 2) else if 1000 < (us.length : Int) + k - 1 then ([], 4) else longR us k.toNat
theorem sum_lh {us : List Int} (j M : Nat) (hM : j + us.length ≤ M + 1) : sumF (lhF us j) M = j * sumL us := by
  induction j with
  | zero => rw [sumF_congr (G := fun _ => 0) (fun k _ => lhF_zero us k), sumF_zero]; simp
  | succ j ih =>
    have e : sumF (lhF us (j + 1)) M = sumF (fun m => lhF us j m + (if j ≤ m ∧ m < j + us.length then el us (m - j) else 0)) M := sumF_congr (fun m _ => by rw [← lhM_all]; rfl)
    rw [e, sumF_add, ih (by omega), sumF_shift, show min us.length (M - j) = us.length by omega, Int.natCast_add, Int.add_mul]
    unfold sumL
    simp
theorem sum_long {us : List Int} {k : Nat} (hk : 1 ≤ k) (hu : 1 ≤ us.length) : sumL (longL us k) = k * sumL us := by
  rw [← sum_lh (us := us) k (us.length + k - 1) (by omega)]
  unfold sumL
  rw [longL_length]
  exact sumF_congr (fun m hm => el_fl _ hm)
end Go.Proofs.Ytlkocedhhdknoaa
