/- What a repair does to a stock: its sum is kept, no tail is greater. No program in sight. -/
import Derived.Test.YtihaabdgligbbaaRepair
namespace Go.Proofs.Ytihaabdgligbbaa
open Go.RowKit
set_option linter.unusedVariables false

theorem sumF_split (F : Nat → Int) (k : Nat) : ∀ m, sumF F (k + m) = sumF F k + sumF (fun j => F (k + j)) m
  | 0 => by simp [sumF]
  | m + 1 => by
    rw [show k + (m + 1) = (k + m) + 1 by omega, sumF, sumF, sumF_split F k m]; omega
theorem el_drop (l : List Int) (k j : Nat) : el (l.drop k) j = el l (k + j) := by
  unfold el; rw [List.getD_eq_getElem?_getD, List.getD_eq_getElem?_getD, List.getElem?_drop]
/-- A tail is the sum less what stands before it. -/
theorem tlS_eq {l : List Int} {k : Nat} (hk : k ≤ l.length) : tlS l k = sumL l - sumF (el l) k := by
  have h := sumF_split (el l) k (l.length - k)
  rw [show k + (l.length - k) = l.length by omega] at h
  unfold tlS sumL
  rw [List.length_drop, h, show el (l.drop k) = fun j => el l (k + j) from funext fun j => el_drop l k j]
  omega
theorem badV_of {a b : List Int} (hl : a.length = b.length) (hs : sumL a = sumL b) (h : ∀ k, k ≤ a.length → sumF (el a) k ≤ sumF (el b) k) : badV a b = true := by
  rw [badV_iff]
  intro k hk
  rw [tlS_eq (by omega), tlS_eq (by omega), hs]
  have := h k (by omega)
  omega
theorem badV_refl (a : List Int) : badV a a = true := badV_of rfl rfl fun _ _ => Int.le_refl _
/-- a is a stock at least as bad as b. -/
structure Wor (a b : List Int) : Prop where
  sa : stockB a = true
  sb : stockB b = true
  len : a.length = b.length
  sum : sumL a = sumL b
  pre : ∀ k, k ≤ a.length → sumF (el a) k ≤ sumF (el b) k
theorem Wor.refl {a : List Int} (h : stockB a = true) : Wor a a := ⟨h, h, rfl, rfl, fun _ _ => Int.le_refl _⟩
theorem Wor.trans {a b c : List Int} (h : Wor a b) (k : Wor b c) : Wor a c := ⟨h.sa, k.sb, h.len.trans k.len, h.sum.trans k.sum, fun i hi => Int.le_trans (h.pre i hi) (k.pre i (by rw [← h.len]; exact hi))⟩
theorem Wor.val {a b : List Int} (h : Wor a b) : WorseV a b = (true, 0) := by
  unfold WorseV
  rw [h.sa, h.sb, if_neg (by decide), if_pos h.len, if_pos h.sum, badV_of h.len h.sum h.pre]

/-- r is l after a repair. -/
def Rep (l r : List Int) : Prop := ∃ F T a, F < l.length ∧ T < F ∧ 0 ≤ a ∧ a ≤ el l F ∧ r = repL l F T a
theorem rep_sum {l : List Int} {F T : Nat} {a : Int} (hF : F < l.length) (hT : T < F) : ∀ k, k ≤ l.length → sumF (el (repL l F T a)) k = sumF (el l) k + (if T < k then a else 0) - (if F < k then a else 0)
  | 0, _ => by simp [sumF]
  | k + 1, hk => by
    have he : el (repL l F T a) k = if k = T then el l T + a else if k = F then el l F - a else el l k := by unfold repL; exact el_fl _ (by omega)
    rw [sumF, sumF, rep_sum hF hT k (by omega), he]
    by_cases h1 : k = T
    · subst h1
      rw [if_pos rfl]; (repeat' split) <;> omega
    · rw [if_neg h1]
      by_cases h2 : k = F
      · subst h2
        rw [if_pos rfl]; (repeat' split) <;> omega
      · rw [if_neg h2]; (repeat' split) <;> omega
theorem rep_length (l : List Int) (F T : Nat) (a : Int) : (repL l F T a).length = l.length := fl_length _ _
theorem Rep.wor {l r : List Int} (h : Rep l r) (hs : stockB l = true) : Wor l r := by
  obtain ⟨F, T, a, hF, hT, ha0, ha1, rfl⟩ := h
  have hp := stockB_parts hs
  have hsum : sumL (repL l F T a) = sumL l := by
    unfold sumL
    rw [rep_length, rep_sum hF hT _ (Nat.le_refl _), if_pos (by omega), if_pos hF]; omega
  refine ⟨hs, ?_, (rep_length _ _ _ _).symm, hsum.symm, fun k hk => ?_⟩
  · unfold stockB
    rw [rep_length, hsum, decide_eq_true hp.1, decide_eq_true hp.2.1, decide_eq_true hp.2.2.2, Bool.and_true, Bool.true_and, Bool.true_and]
    have h2 := part_bd hp.2.2.1 (show F + 1 ≤ l.length by omega)
    have h3 := sumF_le (F := el l) (n := F) (k := T + 1) (fun j hj => (inB_el hp.2.2.1 (by omega)).1) (by omega)
    have h4 := part_bd hp.2.2.1 (show T ≤ l.length by omega)
    rw [sumF] at h2 h3
    have h5 := hp.2.2.2
    apply inB_iff.2
    intro z hz
    obtain ⟨k, hk, rfl⟩ := fl_mem hz
    have h6 := inB_el hp.2.2.1 hk
    by_cases h1 : k = T
    · rw [if_pos h1]
      have := inB_el hp.2.2.1 (show T < l.length by omega)
      omega
    · rw [if_neg h1]
      by_cases h2 : k = F
      · rw [if_pos h2]
        have := inB_el hp.2.2.1 hF
        omega
      · rw [if_neg h2]; exact h6
  · rw [rep_sum hF hT k hk]
    by_cases h1 : T < k
    · rw [if_pos h1]
      split <;> omega
    · rw [if_neg h1, if_neg (by omega)]; omega
end Go.Proofs.Ytihaabdgligbbaa
