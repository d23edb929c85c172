/- Writing an element of an own list. -/
import Derived.Test.YtfhikdgdckfalaaMB08
import Derived.Deep.Heap
namespace Go.Proofs.Ytfhikdgdckfalaa
open Go.RowKit
set_option linter.unusedVariables false

theorem el_set {zs : List Int} {j k : Nat} {x : Int} (hj : j < zs.length) : el (zs.set j x) k = if k = j then x else el zs k := by
  unfold el
  rw [List.getD_eq_getElem?_getD, List.getD_eq_getElem?_getD, List.getElem?_set]
  by_cases h : j = k
  · subst h; simp [hj]
  · rw [if_neg h, if_neg (fun e => h e.symm)]
theorem Own.set {w : World} {B g n c : Nat} {zs : List Int} (h : Own w B (.slice (some ⟨g, 0, none⟩) n c) zs) {j : Nat} (hj : j < n) {x : Int} (hx : -9223372036854775808 ≤ x ∧ x ≤ 9223372036854775807) : Own (w.setCell ⟨g, j, none⟩ (.int .i64 x)) B (.slice (some ⟨g, 0, none⟩) n c) (zs.set j x) := by
  rcases h.row.2 with ⟨e, -⟩ | ⟨g', cap, cur, e, hb, hg, hnc, hm, hsz, htk⟩
  · injection e with e; cases e
  · injection e with e1 e2 e3
    injection e1 with e1
    injection e1 with e1
    subst e1 e2 e3
    refine ⟨⟨by simp [Cells], .inr ⟨g, c, cur.setIfInBounds j (.int .i64 x), by rw [List.length_set], hb, ?_, by rw [List.length_set]; exact hnc, hm, by simp [hsz], ?_⟩⟩, fun z hz => ?_, by rw [List.length_set]; exact h.few⟩
    · simp only [World.setCell, Array.getElem?_modify, if_true, hg, Option.map_some]
      rfl
    · rw [List.length_set]
      simp only [Nat.mul_one] at htk ⊢
      rw [Array.toList_setIfInBounds, List.take_set, htk]
      unfold Cells
      rw [List.map_set]
    · rcases List.mem_or_eq_of_mem_set hz with hz | hz
      · exact h.rng z hz
      · subst hz; exact hx
/-- What an own list that is not empty looks like. -/
theorem Own.shape {w : World} {B : Nat} {v : Value} {zs : List Int} (h : Own w B v zs) (h0 : 0 < zs.length) : ∃ g c, v = .slice (some ⟨g, 0, none⟩) zs.length c ∧ B ≤ g ∧ g < w.heap.size ∧ zs.length ≤ c ∧ c ≤ 9223372036854775807 := by
  rcases h.row.2 with ⟨rfl, hn⟩ | ⟨g, cap, cur, rfl, hb, hg, hnc, hm, hsz, htk⟩
  · omega
  · exact ⟨g, cap, rfl, hb, (h.row.lt g rfl).2, hnc, hm⟩
theorem Own.at_ {w : World} {B g n c : Nat} {zs : List Int} (h : Own w B (.slice (some ⟨g, 0, none⟩) n c) zs) {j : Nat} (hj : j < zs.length) : w.cell? ⟨g, j, none⟩ = some (.int .i64 (el zs j)) ∧ w.frozen? ⟨g, j, none⟩ = false := by
  refine ⟨by have := h.row.cells rfl j _ (Cells_get zs j hj); rw [show ((⟨g, 0, none⟩ : Addr).add j) = ⟨g, j, none⟩ by unfold Addr.add; split <;> simp_all] at this; exact this, ?_⟩
  rcases h.row.2 with ⟨e, -⟩ | ⟨g', cap, cur, e, hb, hg, -⟩
  · injection e with e; cases e
  · injection e with e1 e2 e3
    injection e1 with e1
    injection e1 with e1
    subst e1
    unfold World.frozen?
    simp [hg]
end Go.Proofs.Ytfhikdgdckfalaa
