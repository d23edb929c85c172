/- A slice of bytes that comes in, as the walks have it. -/
import Derived.Test.YtchnfahgmceohaaMReads29
import Derived.Test.YtchnfahgmceohaaMReads01

namespace Go.Proofs.Ytchnfahgmceohaa
open Go.ChangeShapes Go.WideShapes Go.RowKit
set_option linter.unusedVariables false

theorem u8_wf {n : Int} (h : (Lit.int .u8 n).wf = true) : 0 ≤ n ∧ n ≤ 255 := by
  unfold Lit.wf at h
  simp at h
  have h1 : IntKind.u8.min = 0 := by kernel_rfl
  have h2 : IntKind.u8.max = 255 := by kernel_rfl
  omega
theorem cellsByte : Try.prog.cellsOf 5 = 1 := by kernel_rfl
theorem bytesByte : Try.prog.bytesOf 5 = 1 := by kernel_rfl

section
variable {H : Type} {enc : TypeId × Value → H} {w : World} {base : Nat} {held : Bool}
set_option maxRecDepth 100000 in
theorem open_bytes {r : Reach} {b0 : Nat} {v : Value} {d : DataW H} {p : List MemPlace} (hv : Value.okWide Try.prog w r b0 25 v) (h : DataW.Trod enc Try.prog w base (fun _ => true) held 25 v d p)
    (hw : ∀ x ∈ d.weights Try.prog 25, x ≤ reachBytes) (hlt : ∀ x ∈ p, x.block < w.heap.size) : ∃ A n c zs, v = .slice A n c ∧ Byts w A n c zs := by
  obtain ⟨A, n, c, rfl⟩ := okWide_slice Try.underlying25 hv
  obtain ⟨m, hm⟩ := h
  rcases open_ints Try.underlying25 Try.underlying5 cellsByte hm with ⟨hcs, hx⟩ | ⟨a, len, cap, zs, hcs, _, hl, hmx, hz, hx, hcell, hwz⟩
  · simp [Value.cells] at hcs
    obtain ⟨rfl, rfl, rfl⟩ := hcs
    exact ⟨none, 0, 0, [], rfl, Byts.nil w⟩
  · simp [Value.cells] at hcs
    obtain ⟨rfl, rfl, rfl⟩ := hcs
    rw [if_pos rfl] at hz
    injection hx with hd hp
    subst hd
    subst hp
    have hsz := hw ((( (lits (H := H) .u8 (zs.take n)).length + (lits (H := H) .u8 (zs.drop n)).length)) * Try.prog.bytesOf 5) (by simp [DataW.weights, Try.underlying25])
    rw [bytesByte] at hsz
    simp only [lits, List.length_map, List.length_take, List.length_drop, reachBytes] at hsz
    have hel : ∀ j, j < n → el (zs.take n) j = zs.getD j 0 := fun j hj => by
      unfold el; rw [List.getD_eq_getElem?_getD, List.getD_eq_getElem?_getD, List.getElem?_take, if_pos hj]
    refine ⟨some a, n, c, zs.take n, rfl, by rw [List.length_take]; omega, hl, by omega, by omega, fun z hz => u8_wf (hwz z (List.mem_of_mem_take hz)), fun hn => ⟨a, rfl, ?_, fun j hj => ?_⟩, fun e => by cases e⟩
    · exact hlt (.cell a.block (a.off + 0)) (MemPlace.mem_row.2 ⟨0, by omega, rfl⟩)
    · rw [hel j hj]; exact hcell j (by omega)
end
end Go.Proofs.Ytchnfahgmceohaa
