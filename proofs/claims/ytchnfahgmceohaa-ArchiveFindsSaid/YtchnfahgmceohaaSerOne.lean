/- A slice of one record; a byte stored into an own slice. -/
import Derived.Test.YtchnfahgmceohaaNotV
namespace Go.Proofs.Ytchnfahgmceohaa
open Go.RowKit
set_option linter.unusedVariables false

theorem Sers.one {w : World} {A : Option Addr} {n c : Nat} {s : SerD} (h : Ints w A n c s.ds) : Sers (w.alloc (serO s.f s.st A n c)) (some ⟨w.heap.size, 0, none⟩) 1 1 [s] := by
  have b := SBox.made w s.f s.st A n c
  refine ⟨rfl, Nat.le_refl _, by omega, by omega, fun _ => ⟨_, rfl, by simp, fun j hj => ?_⟩, fun e => by cases e⟩
  obtain rfl : j = 0 := by omega
  exact ⟨A, n, c, b.c0, b.c1, b.c2, h.alloc _⟩
/-- The own slice of bytes as a row. -/
theorem OwnB.asRow {w : World} {B : Nat} {v : Value} {zs : List Int} (h : OwnB w B v zs) (hn : 0 < zs.length) : ∃ g c, v = .slice (some ⟨g, 0, none⟩) zs.length c ∧ B ≤ g ∧ zs.length ≤ c ∧ c ≤ 9223372036854775807 ∧ g < w.heap.size ∧ (∀ j, j < zs.length → w.cell? ⟨g, j, none⟩ = some (.int .u8 (el zs j))) ∧ ∀ j, w.frozen? ⟨g, j, none⟩ = false := by
  rcases h.row.2 with ⟨_, h0⟩ | ⟨g, cap, cur, rfl, hb, hg, hnc, hm, hsz, htk⟩
  · omega
  · refine ⟨g, cap, rfl, hb, hnc, hm, (h.row.lt g rfl).2, fun j hj => ?_, fun j => ?_⟩
    · have := h.row.cells rfl j _ (BCells_get zs j hj)
      rwa [show (⟨g, 0, none⟩ : Addr).add j = ⟨g, j, none⟩ from by rw [Addr.add_lit, Nat.zero_add]] at this
    · simp [World.frozen?, hg]
/-- A byte is stored. -/
theorem Byts.store {w : World} {g c : Nat} {zs : List Int} (hl : g < w.heap.size) (hc : zs.length ≤ c) (hm : c ≤ 9223372036854775807) (hf : zs.length ≤ 17592186044416) (hr : ∀ z ∈ zs, 0 ≤ z ∧ z ≤ 255)
    (hx : ∀ j, j < zs.length → w.cell? ⟨g, j, none⟩ = some (.int .u8 (el zs j))) {k : Nat} (hk : k < zs.length) (y : Int) (hy : 0 ≤ y ∧ y ≤ 255) : Byts (w.setCell ⟨g, k, none⟩ (.int .u8 y)) (some ⟨g, 0, none⟩) zs.length c (zs.set k y) := by
  refine ⟨List.length_set, hc, hm, by omega, fun z hz => ?_, fun _ => ⟨_, rfl, by simp [World.setCell]; exact hl, fun j hj => ?_⟩, fun e => by cases e⟩
  · rcases List.mem_or_eq_of_mem_set hz with h | h
    · exact hr z h
    · rw [h]; exact hy
  · rw [show (⟨g, 0, none⟩ : Addr).add j = ⟨g, j, none⟩ from by rw [Addr.add_lit, Nat.zero_add]]
    by_cases hjk : k = j
    · subst hjk
      rw [World.cell?_setCell_same _ _ _ (hx k hk)]
      unfold el; rw [List.getD_eq_getElem?_getD, List.getElem?_set_self hk]; rfl
    · rw [World.cell?_setCell_other _ _ _ _ (by intro e; injection e with e1 e2; omega), hx j hj]
      unfold el; rw [List.getD_eq_getElem?_getD, List.getD_eq_getElem?_getD, List.getElem?_set_ne hjk]
end Go.Proofs.Ytchnfahgmceohaa
