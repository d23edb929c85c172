/- Records that come in by value, as the walks have them. -/
import Derived.Test.YtfhikdgdckfalaaMB04
import Derived.Test.YtfhikdgdckfalaaMB02
import Derived.Deep.Slices
import Derived.Deep.Fields
import Derived.ChangeSame
import Derived.Lib.SmallJoins
namespace Go.Proofs.Ytfhikdgdckfalaa
open Go.ChangeShapes Go.WideShapes Go.RowKit Go.Deep Go.Joins
set_option linter.unusedVariables false

section
variable {H : Type} {enc : TypeId × Value → H} {w : World} {base : Nat} {held : Bool}
set_option maxRecDepth 100000 in
theorem list_trod {m : Nat} {v : Value} {y : DataW H × List MemPlace} (hm : DataW.trod enc Try.prog w base (fun _ => true) held m 23 [v] = some y)
    (hw : ∀ x ∈ y.1.weights Try.prog 23, x ≤ reachBytes) (hlt : ∀ x ∈ y.2, x.block < w.heap.size) : ∃ A n c zs, v = .slice A n c ∧ Ints w A n c zs := by
  rcases open_ints Try.underlying23 Try.underlying3 cellsInt hm with ⟨hcs, hx⟩ | ⟨a, len, cap, zs, hcs, _, hl, hmx, hz, hx, hcell, hwz⟩
  · injection hcs with hcs
    exact ⟨none, 0, 0, [], hcs, Ints.nil w⟩
  · injection hcs with hcs
    rw [if_pos rfl] at hz
    subst hx
    have hsz := hw (((lits (H := H) .i64 (zs.take len)).length + (lits (H := H) .i64 (zs.drop len)).length) * Try.prog.bytesOf 3) (by simp [DataW.weights, Try.underlying23])
    rw [bytesInt] at hsz
    simp only [lits, List.length_map, List.length_take, List.length_drop, reachBytes] at hsz
    have hml : maxLen = 9223372036854775807 := by kernel_rfl
    rw [hml] at hmx
    have hel : ∀ j, j < len → el (zs.take len) j = zs.getD j 0 := fun j hj => by
      unfold el; rw [List.getD_eq_getElem?_getD, List.getD_eq_getElem?_getD, List.getElem?_take, if_pos hj]
    refine ⟨some a, len, cap, zs.take len, hcs, by rw [List.length_take]; omega, hl, by omega, by omega, fun z hz => i64_wf (hwz z (List.mem_of_mem_take hz)), fun hn => ⟨a, rfl, ?_, fun j hj => ?_⟩, fun e => by cases e⟩
    · exact hlt (.cell a.block (a.off + 0)) (MemPlace.mem_row.2 ⟨0, by omega, rfl⟩)
    · rw [hel j hj]; exact hcell j (by omega)
theorem int_trod {m : Nat} {v : Value} {y : DataW H × List MemPlace} (hm : DataW.trod enc Try.prog w base (fun _ => true) held m 3 [v] = some y) : ∃ z : Int, v = .int .i64 z ∧ -9223372036854775808 ≤ z ∧ z ≤ 9223372036854775807 := by
  obtain ⟨z, hz, _, hw⟩ := DataW.trod_int Try.underlying3 hm
  injection hz with hz
  exact ⟨z, hz, i64_wf hw⟩

set_option maxRecDepth 100000 in
theorem open_ser {r : Reach} {b0 : Nat} {v : Value} {d : DataW H} {p : List MemPlace} (hv : Value.okWide Try.prog w r b0 25 v) (h : DataW.Trod enc Try.prog w base (fun _ => true) held 25 v d p)
    (hw : ∀ x ∈ d.weights Try.prog 25, x ≤ reachBytes) (hlt : ∀ x ∈ p, x.block < w.heap.size) : ∃ (f st : Int) (A : Option Addr) (n c : Nat) (ds : List Int), v = serA f st A n c ∧ Ints w A n c ds ∧ (-9223372036854775808 ≤ f ∧ f ≤ 9223372036854775807) ∧ (-9223372036854775808 ≤ st ∧ st ≤ 9223372036854775807) := by
  obtain ⟨v0, v1, v2, y0, y1, y2, n', rfl, hd, hp, t0, t1, t2⟩ := open_agg3 Try.underlying25 (by kernel_rfl) (by kernel_rfl) hv h
  obtain ⟨z0, rfl, b0⟩ := int_trod t0
  obtain ⟨z1, rfl, b1⟩ := int_trod t1
  subst hd hp
  obtain ⟨A2, n2, k2, ds, rfl, hI⟩ := list_trod t2 (fun x hx => hw x (by
    simp only [DataW.weights, Try.underlying25, List.map_cons, List.map_nil, DataW.weightsEach, List.mem_append]
    exact .inr (.inr (.inl hx)))) (fun x hx => hlt x (by simp [hx]))
  exact ⟨z0, z1, A2, n2, k2, ds, rfl, hI, b0, b1⟩
end
end Go.Proofs.Ytfhikdgdckfalaa
