/- A power of a table is a table; that of no years keeps every stock, that of one year is the table. No program in sight. -/
import Derived.Test.YtihaabdgligbbaaKeepLaw
import Derived.Test.YtihaabdgligbbaaPowerR
namespace Go.Proofs.Ytihaabdgligbbaa
open Go.RowKit
set_option linter.unusedVariables false

theorem powL_length (ts : List (List Int)) (y : Nat) : (powL ts y).length = ts.length := powTo_length _ _ _
theorem tl_powL {ts : List (List Int)} {y i : Nat} (hi : i < ts.length) : tl (powL ts y) i = yearsL ts (unitL ts.length i) y := by
  unfold powL powTo tl
  rw [List.getD_eq_getElem?_getD, List.getElem?_map, List.getElem?_range hi]; rfl
theorem unitL_length (n i : Nat) : (unitL n i).length = n := fl_length _ _
theorem unit_pre {n i : Nat} {k : Nat} (hk : k ≤ n) : sumF (el (unitL n i)) k = if i < k then 1000000 else 0 := by
  rw [sumF_congr (F := el (unitL n i)) (G := fun j => if j = i then (1000000 : Int) else 0) (fun j hj => el_fl _ (by omega)), unit_sum]
section
variable {ts : List (List Int)} (hv : validT ts = true)
include hv
theorem unit_year {i : Nat} (hi : i < ts.length) : YearOk ts (unitL ts.length i) := yearOk_of (unit_given hv hi)
theorem pow_row {y i : Nat} (hi : i < ts.length) : rowB ts.length i (yearsL ts (unitL ts.length i) y) = true := by
  have ok := unit_year hv hi
  have hy := ok.years y
  have hw := ok.wors y
  have hlen : (yearsL ts (unitL ts.length i) y).length = ts.length := by rw [hy.2.1, unitL_length]
  have hsum : sumL (yearsL ts (unitL ts.length i) y) = 1000000 := by
    rw [hy.2.2]; unfold sumL; rw [unitL_length, unit_pre (Nat.le_refl _), if_pos hi]
  have hin := (stockB_parts hw.sa).2.2.1
  have hp := hw.pre i (by rw [hlen]; omega)
  rw [unit_pre (by omega), if_neg (by omega)] at hp
  have hp0 := (part_bd hin (show i ≤ _ by rw [hlen]; omega)).1
  unfold rowB
  rw [hlen, decide_eq_true rfl, hsum, decide_eq_true rfl, show sumF (el (yearsL ts (unitL ts.length i) y)) i = 0 by omega, decide_eq_true rfl, Bool.true_and, Bool.and_true, Bool.and_true]
  apply inB_iff.2
  intro z hz
  obtain ⟨k, hk, rfl⟩ := List.getElem_of_mem hz
  have he : el (yearsL ts (unitL ts.length i) y) k = (yearsL ts (unitL ts.length i) y)[k] := by unfold el; rw [List.getD_eq_getElem?_getD, List.getElem?_eq_getElem hk]; rfl
  rw [← he]
  have h1 := inB_el hin hk
  have h2 := part_bd hin (show k + 1 ≤ _ from hk)
  have h3 := part_bd hin (show k ≤ _ by omega)
  rw [sumF, hsum] at h2
  omega
theorem pow_valid (y : Nat) : validT (powL ts y) = true := by
  have hp := validT_parts hv
  unfold validT
  rw [powL_length, decide_eq_true hp.1, decide_eq_true hp.2.1, Bool.true_and, Bool.true_and, rowsB_all]
  intro j hj
  rw [powL_length, tl_powL hj]
  exact pow_row hv hj
omit hv in
theorem shF_zero (ws : List Int) (k : Nat) : shF 0 ws k = 0 := by unfold shF; rw [Int.zero_mul, Int.zero_mul, Int.zero_ediv]; rfl
omit hv in
theorem shF_whole {ws : List Int} (h : sumL ws = 1000000) (k : Nat) : shF 1000000 ws k = el ws k := by
  unfold shF
  rw [h, Int.mul_ediv_cancel_left _ (by decide), Int.mul_ediv_cancel_left _ (by decide), sumF]; omega
theorem yF_unit {i : Nat} (hi : i < ts.length) (k : Nat) : ∀ m, m ≤ ts.length → yF ts (unitL ts.length i) m k = if i < m then el (tl ts i) k else 0
  | 0, _ => rfl
  | m + 1, hm => by
    rw [yF, yF_unit hi k m (by omega)]
    have he : el (unitL ts.length i) m = if m = i then 1000000 else 0 := el_fl _ (by omega)
    rw [he]
    by_cases h : m = i
    · subst h
      rw [if_pos rfl, if_neg (by omega), if_pos (by omega), shF_whole (rowB_parts ((validT_parts hv).2.2 m hi)).2.2.1]; omega
    · rw [if_neg h, shF_zero]
      by_cases h2 : i < m
      · rw [if_pos h2, if_pos (by omega)]; omega
      · rw [if_neg h2, if_neg (by omega)]; rfl
theorem pow_one : powL ts 1 = ts := by
  apply tl_ext (powL_length _ _)
  intro k hk
  rw [powL_length] at hk
  rw [tl_powL hk]
  have hr := rowB_parts ((validT_parts hv).2.2 k hk)
  show yearL ts (unitL ts.length k) = tl ts k
  unfold yearL
  rw [unitL_length]
  apply ext_el (by rw [fl_length, hr.1])
  intro j hj
  rw [fl_length] at hj
  rw [el_fl _ hj, yF_unit hv hk j _ (Nat.le_refl _), if_pos hk]
theorem pow_wor {i N M : Nat} (hi : i < ts.length) : Wor (tl (powL ts (N + M)) i) (tl (powL ts N) i) := by
  rw [tl_powL hi, tl_powL hi, ← years_add]
  exact ((unit_year hv hi).years N).1.wors M
end
theorem shF_unit {t : Int} {n m k : Nat} (hm : m < n) (hk : k < n) : shF t (unitL n m) k = if k = m then t else 0 := by
  have hs : sumL (unitL n m) = 1000000 := by unfold sumL; rw [unitL_length, unit_pre (Nat.le_refl _), if_pos hm]
  unfold shF
  rw [hs, unit_pre (by omega), unit_pre (by omega)]
  by_cases h : k = m
  · subst h
    rw [if_pos (by omega), if_neg (by omega), if_pos rfl, Int.mul_zero, Int.zero_ediv, Int.mul_ediv_cancel _ (by decide)]; omega
  · rw [if_neg h]
    by_cases h2 : m < k
    · rw [if_pos (by omega), if_pos h2]; omega
    · rw [if_neg (by omega), if_neg h2]; omega
theorem yF_none {ts : List (List Int)} {l : List Int} (hl : ts.length = l.length) {k : Nat} (hk : k < l.length) : ∀ m, m ≤ l.length → yF (powL ts 0) l m k = if k < m then el l k else 0
  | 0, _ => rfl
  | m + 1, hm => by
    rw [yF, yF_none hl hk m (by omega), tl_powL (by omega)]
    rw [show yearsL ts (unitL ts.length m) 0 = unitL ts.length m from rfl, shF_unit (by omega) (by omega)]
    by_cases h : k = m
    · subst h; rw [if_pos rfl, if_neg (by omega), if_pos (by omega)]; omega
    · rw [if_neg h]
      by_cases h2 : k < m
      · rw [if_pos h2, if_pos (by omega)]; omega
      · rw [if_neg h2, if_neg (by omega)]; rfl
theorem none_step {ts : List (List Int)} {l : List Int} (h : YearOk ts l) : StepV (powL ts 0) l = (l, 0) := by
  have ok : YearOk (powL ts 0) l := ⟨pow_valid h.v 0, h.s, by rw [powL_length]; exact h.len⟩
  unfold StepV
  rw [if_pos (given_ok ok)]
  congr 1
  unfold yearL
  conv => rhs; rw [← fl_el l]
  exact fl_congr fun k hk => by rw [yF_none h.len hk _ (Nat.le_refl _), if_pos hk]
end Go.Proofs.Ytihaabdgligbbaa
