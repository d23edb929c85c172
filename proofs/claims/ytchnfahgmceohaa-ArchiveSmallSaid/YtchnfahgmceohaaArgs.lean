/- A slice of integers that comes in, as the walks have it. -/
import Derived.Test.YtchnfahgmceohaaInts
import Derived.Test.YtchnfahgmceohaaProg
import Derived.ChangeSlices
import Derived.SizedLaws
import Derived.KernelRfl
import Derived.ChangeReads
namespace Go.Proofs.Ytchnfahgmceohaa
open Go.ChangeShapes Go.WideShapes Go.RowKit
set_option linter.unusedVariables false

theorem i64_wf {n : Int} (h : (Lit.int .i64 n).wf = true) : -9223372036854775808 ≤ n ∧ n ≤ 9223372036854775807 := by
  unfold Lit.wf at h
  simp at h
  have h1 : IntKind.i64.min = -9223372036854775808 := by kernel_rfl
  have h2 : IntKind.i64.max = 9223372036854775807 := by kernel_rfl
  omega
theorem cellsInt : Try.prog.cellsOf 3 = 1 := by kernel_rfl
theorem bytesInt : Try.prog.bytesOf 3 = 8 := by kernel_rfl

section
variable {H : Type} {enc : TypeId × Value → H} {w : World} {base : Nat} {held : Bool}
set_option maxRecDepth 100000 in
theorem open_list {r : Reach} {b0 : Nat} {v : Value} {d : DataW H} {p : List MemPlace} (hv : Value.okWide Try.prog w r b0 34 v) (h : DataW.Trod enc Try.prog w base (fun _ => true) held 34 v d p)
    (hw : ∀ x ∈ d.weights Try.prog 34, x ≤ reachBytes) (hlt : ∀ x ∈ p, x.block < w.heap.size) : ∃ A n c zs, v = .slice A n c ∧ Ints w A n c zs := by
  obtain ⟨A, n, c, rfl⟩ := okWide_slice Try.underlying34 hv
  obtain ⟨m, hm⟩ := h
  rcases open_ints Try.underlying34 Try.underlying3 cellsInt hm with ⟨hcs, hx⟩ | ⟨a, len, cap, zs, hcs, _, hl, hmx, hz, hx, hcell, hwz⟩
  · simp [Value.cells] at hcs
    obtain ⟨rfl, rfl, rfl⟩ := hcs
    exact ⟨none, 0, 0, [], rfl, Ints.nil w⟩
  · simp [Value.cells] at hcs
    obtain ⟨rfl, rfl, rfl⟩ := hcs
    rw [if_pos rfl] at hz
    injection hx with hd hp
    subst hd
    subst hp
    have hsz := hw ((( (lits (H := H) .i64 (zs.take n)).length + (lits (H := H) .i64 (zs.drop n)).length)) * Try.prog.bytesOf 3) (by simp [DataW.weights, Try.underlying34])
    rw [bytesInt] at hsz
    simp only [lits, List.length_map, List.length_take, List.length_drop, reachBytes] at hsz
    have hel : ∀ j, j < n → el (zs.take n) j = zs.getD j 0 := fun j hj => by
      unfold el; rw [List.getD_eq_getElem?_getD, List.getD_eq_getElem?_getD, List.getElem?_take, if_pos hj]
    refine ⟨some a, n, c, zs.take n, rfl, by rw [List.length_take]; omega, hl, by omega, by omega, fun z hz => i64_wf (hwz z (List.mem_of_mem_take hz)), fun hn => ⟨a, rfl, ?_, fun j hj => ?_⟩, fun e => by cases e⟩
    · exact hlt (.cell a.block (a.off + 0)) (MemPlace.mem_row.2 ⟨0, by omega, rfl⟩)
    · rw [hel j hj]; exact hcell j (by omega)
end
end Go.Proofs.Ytchnfahgmceohaa
