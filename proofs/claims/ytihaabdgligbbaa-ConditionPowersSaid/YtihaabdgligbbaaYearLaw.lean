/- A stock after a year as a plain function: its sum is kept, it is a stock again. No program in sight. -/
import Derived.Test.YtihaabdgligbbaaCondLaw
namespace Go.Proofs.Ytihaabdgligbbaa
open Go.RowKit
set_option linter.unusedVariables false

/-- What the first i grades bring to grade k; .. the first j shares of grade i besides. -/
def yF (ts : List (List Int)) (l : List Int) : Nat → Nat → Int
  | 0, _ => 0
  | i + 1, k => yF ts l i k + shF (el l i) (tl ts i) k
def yM (ts : List (List Int)) (l : List Int) (i j k : Nat) : Int := if k < j then yF ts l (i + 1) k else yF ts l i k
def yearL (ts : List (List Int)) (l : List Int) : List Int := fl l.length (yF ts l l.length)
def yearsL (ts : List (List Int)) (l : List Int) : Nat → List Int
  | 0 => l
  | n + 1 => yearL ts (yearsL ts l n)
theorem yM_zero (ts : List (List Int)) (l : List Int) (i k : Nat) : yM ts l i 0 k = yF ts l i k := by unfold yM; rw [if_neg (by omega)]
theorem yM_all (ts : List (List Int)) (l : List Int) (i n k : Nat) (h : k < n) : yM ts l i n k = yF ts l (i + 1) k := by unfold yM; rw [if_pos h]
theorem yM_self (ts : List (List Int)) (l : List Int) (i j : Nat) : yM ts l i j j = yF ts l i j := by unfold yM; rw [if_neg (by omega)]
theorem yM_step (ts : List (List Int)) (l : List Int) (i j q : Nat) : (if q = j then yF ts l i j + shF (el l i) (tl ts i) j else yM ts l i j q) = yM ts l i (j + 1) q := by
  by_cases h : q = j
  · subst h; rw [if_pos rfl]; unfold yM; rw [if_pos (by omega), yF]
  · rw [if_neg h]; unfold yM
    by_cases h2 : q < j
    · rw [if_pos h2, if_pos (by omega)]
    · rw [if_neg h2, if_neg (by omega)]

/-- A right table and a stock for its grades. -/
structure YearOk (ts : List (List Int)) (l : List Int) : Prop where
  v : validT ts = true
  s : stockB l = true
  len : ts.length = l.length
section
variable {ts : List (List Int)} {l : List Int} (h : YearOk ts l)
include h
theorem YearOk.row {i : Nat} (hi : i < l.length) : rowB l.length i (tl ts i) = true := by
  have := (validT_parts h.v).2.2 i (by rw [h.len]; exact hi)
  rwa [h.len] at this
theorem YearOk.rowLen {i : Nat} (hi : i < l.length) : (tl ts i).length = l.length := (rowB_parts (h.row hi)).1
theorem YearOk.el {i : Nat} (hi : i < l.length) : 0 ≤ Go.Proofs.Ytihaabdgligbbaa.el l i ∧ Go.Proofs.Ytihaabdgligbbaa.el l i ≤ 1125899906842624 := inB_el (stockB_parts h.s).2.2.1 hi
theorem YearOk.share {i : Nat} (hi : i < l.length) : ShareOk (Go.Proofs.Ytihaabdgligbbaa.el l i) (tl ts i) := by
  obtain ⟨h1, h2, h3, h4⟩ := rowB_parts (h.row hi)
  have h5 := stockB_parts h.s
  refine ⟨by omega, (h.el hi).1, (h.el hi).2, ?_, by omega, by omega⟩
  exact inB_iff.2 fun z hz => by have := inB_iff.1 h2 z hz; omega
theorem YearOk.sh {i k : Nat} (hi : i < l.length) (hk : k < l.length) : 0 ≤ shF (Go.Proofs.Ytihaabdgligbbaa.el l i) (tl ts i) k ∧ shF (Go.Proofs.Ytihaabdgligbbaa.el l i) (tl ts i) k ≤ Go.Proofs.Ytihaabdgligbbaa.el l i := shF_bd (h.share hi) (by rw [h.rowLen hi]; exact hk)
theorem YearOk.yF {k : Nat} (hk : k < l.length) : ∀ i, i ≤ l.length → 0 ≤ Go.Proofs.Ytihaabdgligbbaa.yF ts l i k ∧ Go.Proofs.Ytihaabdgligbbaa.yF ts l i k ≤ sumF (Go.Proofs.Ytihaabdgligbbaa.el l) i
  | 0, _ => ⟨Int.le_refl _, Int.le_refl _⟩
  | i + 1, hi => by
    have h1 := YearOk.yF hk i (by omega)
    have h2 := h.sh (show i < l.length by omega) hk
    rw [Go.Proofs.Ytihaabdgligbbaa.yF, sumF]; omega
theorem YearOk.yF_le {k : Nat} (hk : k < l.length) {i : Nat} (hi : i ≤ l.length) : 0 ≤ Go.Proofs.Ytihaabdgligbbaa.yF ts l i k ∧ Go.Proofs.Ytihaabdgligbbaa.yF ts l i k ≤ 1125899906842624 := by
  have h1 := h.yF hk i hi
  have h2 := (part_bd (stockB_parts h.s).2.2.1 hi).2
  have h3 := (stockB_parts h.s).2.2.2
  omega
omit h in
theorem sumF_add (F G : Nat → Int) (n : Nat) : sumF (fun k => F k + G k) n = sumF F n + sumF G n := by
  induction n with
  | zero => rfl
  | succ n ih => rw [sumF, sumF, sumF, ih]; omega
theorem YearOk.sumRow : ∀ i, i ≤ l.length → sumF (Go.Proofs.Ytihaabdgligbbaa.yF ts l i) l.length = sumF (Go.Proofs.Ytihaabdgligbbaa.el l) i
  | 0, _ => by
    show sumF (fun _ => (0 : Int)) l.length = 0
    generalize l.length = n
    induction n with
    | zero => rfl
    | succ n ih => rw [sumF, ih]; rfl
  | i + 1, hi => by
    have h1 := YearOk.sumRow i (by omega)
    have h2 := sum_share (h.share (show i < l.length by omega))
    unfold sumL at h2
    rw [shL_length, show sumF (Go.Proofs.Ytihaabdgligbbaa.el (shL (Go.Proofs.Ytihaabdgligbbaa.el l i) (tl ts i))) (tl ts i).length = sumF (shF (Go.Proofs.Ytihaabdgligbbaa.el l i) (tl ts i)) (tl ts i).length from sumF_congr (fun k hk => el_fl _ hk), h.rowLen (by omega)] at h2
    rw [show Go.Proofs.Ytihaabdgligbbaa.yF ts l (i + 1) = fun k => Go.Proofs.Ytihaabdgligbbaa.yF ts l i k + shF (Go.Proofs.Ytihaabdgligbbaa.el l i) (tl ts i) k from rfl, sumF_add, h1, h2, sumF]
omit h in
theorem yearL_length (ts : List (List Int)) (l : List Int) : (yearL ts l).length = l.length := fl_length _ _
theorem YearOk.sum : sumL (yearL ts l) = sumL l := by
  unfold sumL
  rw [yearL_length]
  have : sumF (Go.Proofs.Ytihaabdgligbbaa.el (yearL ts l)) l.length = sumF (Go.Proofs.Ytihaabdgligbbaa.yF ts l l.length) l.length := sumF_congr (fun k hk => el_fl _ hk)
  rw [this, h.sumRow _ (Nat.le_refl _)]
theorem YearOk.next : YearOk ts (yearL ts l) := by
  have hp := stockB_parts h.s
  refine ⟨h.v, ?_, by rw [yearL_length]; exact h.len⟩
  unfold stockB
  rw [yearL_length, h.sum, decide_eq_true hp.1, decide_eq_true hp.2.1, decide_eq_true hp.2.2.2, Bool.and_true, Bool.true_and, Bool.true_and]
  apply inB_iff.2
  intro z hz
  obtain ⟨k, hk, rfl⟩ := fl_mem hz
  exact h.yF_le hk (Nat.le_refl _)
theorem YearOk.years : ∀ n, YearOk ts (yearsL ts l n) ∧ (yearsL ts l n).length = l.length ∧ sumL (yearsL ts l n) = sumL l
  | 0 => ⟨h, rfl, rfl⟩
  | n + 1 => by
    obtain ⟨h1, h2, h3⟩ := YearOk.years n
    exact ⟨h1.next, by rw [yearsL, yearL_length, h2], by rw [yearsL, h1.sum, h3]⟩
end
theorem yearOk_of {ts : List (List Int)} {l : List Int} (h : givenE ts l = 0) : YearOk ts l := by
  unfold givenE at h
  split at h
  · simp at h
  · rename_i hc
    split at h
    · rename_i hl
      have : validT ts = true ∧ stockB l = true := by simpa using hc
      exact ⟨this.1, this.2, hl⟩
    · simp at h
end Go.Proofs.Ytihaabdgligbbaa
