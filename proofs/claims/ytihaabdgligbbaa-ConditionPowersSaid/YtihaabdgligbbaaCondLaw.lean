/- What a right table, a right stock is. No program in sight. -/
import Derived.Test.YtihaabdgligbbaaSum
namespace Go.Proofs.Ytihaabdgligbbaa
open Go.RowKit
set_option linter.unusedVariables false

/-- Whether l is right as row i of a table for n grades. -/
def rowB (n i : Nat) (l : List Int) : Bool := decide (l.length = n) && (inB 1000000 l && (decide (sumL l = 1000000) && decide (sumF (el l) i = 0)))
def rowsB (ts : List (List Int)) (k : Nat) : Bool := (List.range k).all fun j => rowB ts.length j (tl ts j)
def validT (ts : List (List Int)) : Bool := decide (1 ≤ ts.length) && (decide (ts.length ≤ 8) && rowsB ts ts.length)
def stockB (l : List Int) : Bool := decide (1 ≤ l.length) && (decide (l.length ≤ 8) && (inB 1125899906842624 l && decide (sumL l ≤ 1125899906842624)))
def givenE (ts : List (List Int)) (l : List Int) : Int := if (validT ts && stockB l) = false then 1 else if ts.length = l.length then 0 else 3
theorem rowsB_all {ts : List (List Int)} {k : Nat} : rowsB ts k = true ↔ ∀ j, j < k → rowB ts.length j (tl ts j) = true := by
  unfold rowsB; simp [List.all_eq_true]
theorem rowsB_not {ts : List (List Int)} {k j : Nat} (hj : j < k) (h : rowB ts.length j (tl ts j) = false) : rowsB ts k = false := by
  cases e : rowsB ts k
  · rfl
  · rw [rowsB_all] at e; rw [e j hj] at h; cases h
theorem sum_take {l : List Int} {i : Nat} (h : i ≤ l.length) : sumL (l.take i) = sumF (el l) i := by
  unfold sumL
  rw [List.length_take, Nat.min_eq_left h]
  have : ∀ k, k ≤ i → sumF (el (l.take i)) k = sumF (el l) k := by
    intro k
    induction k with
    | zero => intro _; rfl
    | succ k ih =>
      intro hk
      rw [sumF, sumF, ih (by omega)]
      congr 1
      unfold el
      rw [List.getD_eq_getElem?_getD, List.getD_eq_getElem?_getD, List.getElem?_take, if_pos (by omega)]
  exact this i (Nat.le_refl _)
theorem rowB_parts {n i : Nat} {l : List Int} (h : rowB n i l = true) : l.length = n ∧ inB 1000000 l = true ∧ sumL l = 1000000 ∧ sumF (el l) i = 0 := by
  unfold rowB at h
  simp only [Bool.and_eq_true, decide_eq_true_eq] at h
  exact h
theorem validT_parts {ts : List (List Int)} (h : validT ts = true) : 1 ≤ ts.length ∧ ts.length ≤ 8 ∧ ∀ j, j < ts.length → rowB ts.length j (tl ts j) = true := by
  unfold validT at h
  simp only [Bool.and_eq_true, decide_eq_true_eq] at h
  exact ⟨h.1, h.2.1, rowsB_all.1 h.2.2⟩
theorem stockB_parts {l : List Int} (h : stockB l = true) : 1 ≤ l.length ∧ l.length ≤ 8 ∧ inB 1125899906842624 l = true ∧ sumL l ≤ 1125899906842624 := by
  unfold stockB at h
  simp only [Bool.and_eq_true, decide_eq_true_eq] at h
  exact h
end Go.Proofs.Ytihaabdgligbbaa
