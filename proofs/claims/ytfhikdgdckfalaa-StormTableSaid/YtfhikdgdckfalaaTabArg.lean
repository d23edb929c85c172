/- A table that comes in by value: three slices. -/
import Derived.Test.YtfhikdgdckfalaaSerArgs
import Derived.Test.YtfhikdgdckfalaaMB04
namespace Go.Proofs.Ytfhikdgdckfalaa
open Go.ChangeShapes Go.WideShapes Go.RowKit Go.Deep Go.Joins
set_option linter.unusedVariables false

section
variable {H : Type} {enc : TypeId × Value → H} {w : World} {base : Nat} {held : Bool}
set_option maxRecDepth 100000 in
theorem rows_trod {m : Nat} {v : Value} {y : DataW H × List MemPlace} (hm : DataW.trod enc Try.prog w base (fun _ => true) held m 35 [v] = some y)
    (hw : ∀ x ∈ y.1.weights Try.prog 35, x ≤ reachBytes) (hlt : ∀ x ∈ y.2, x.block < w.heap.size) : ∃ A n c ts, v = .slice A n c ∧ Tab w A n c ts := by
  rcases open_int_rows Try.underlying35 Try.underlying23 Try.underlying3 cellsRow cellsInt hm with ⟨hcs, hx⟩ | ⟨a, n, c, A', L, C, Z, hcs, _, hl, hmx, hx, hrows⟩
  · injection hcs with hcs
    exact ⟨none, 0, 0, [], hcs, Tab.nil w⟩
  · injection hcs with hcs
    subst hx
    have hml : maxLen = 9223372036854775807 := by kernel_rfl
    have hsz := hw ((((List.range n).map fun r => intRow (H := H) .i64 (A' r) (L r) (Z r)).length + ((List.range (c - n)).map fun j => intRow (H := H) .i64 (A' (n + j)) (L (n + j)) (Z (n + j))).length) * Try.prog.bytesOf 23) (by simp [DataW.weights, Try.underlying35])
    rw [bytesRow] at hsz
    simp only [List.length_map, List.length_range, reachBytes] at hsz
    have hel : ∀ r j, j < L r → el ((Z r).take (L r)) j = (Z r).getD j 0 := fun r j hj => by
      unfold el; rw [List.getD_eq_getElem?_getD, List.getD_eq_getElem?_getD, List.getElem?_take, if_pos hj]
    refine ⟨some a, n, c, (List.range n).map fun r => (Z r).take (L r), hcs, by simp, hl, by rw [hml] at hmx; omega, by omega, fun hn => ⟨a, rfl, ?_, fun j hj => ?_⟩, fun e => by cases e⟩
    · exact hlt (.cell a.block (a.off + 0)) (List.mem_append.2 (.inl (MemPlace.mem_row.2 ⟨0, by omega, rfl⟩)))
    · obtain ⟨h1, h2, h3, h4, h5, h6, h7⟩ := hrows j (by omega)
      have htl : tl ((List.range n).map fun r => (Z r).take (L r)) j = (Z j).take (L j) := by
        unfold tl; simp [List.getD_eq_getElem?_getD, List.getElem?_map, List.getElem?_range hj]
      refine ⟨A' j, L j, C j, h1, ?_⟩
      rw [htl]
      cases hA : A' j with
      | none =>
        have hc := h6 hA
        have hL : L j = 0 := by omega
        rw [hL, hc]
        exact Ints.nil w
      | some a' =>
        have hb := (h7 a' hA).2
        have hmem : intRow (H := H) .i64 (A' j) (L j) (Z j) ∈ (List.range n).map fun r => intRow (H := H) .i64 (A' r) (L r) (Z r) := List.mem_map.2 ⟨j, List.mem_range.2 hj, rfl⟩
        have hs2 := hw (((lits (H := H) .i64 ((Z j).take (L j))).length + (lits (H := H) .i64 ((Z j).drop (L j))).length) * Try.prog.bytesOf 3) (by
          simp only [DataW.weights, Try.underlying35, List.mem_cons, List.mem_append]
          exact .inr (.inl (weightsAll_mem hmem _ (by rw [hA]; simp [intRow, DataW.weights, Try.underlying23]))))
        rw [bytesInt] at hs2
        simp only [lits, List.length_map, List.length_take, List.length_drop, reachBytes] at hs2
        refine ⟨by rw [List.length_take]; omega, h2, by rw [hml] at h3; omega, by omega, fun z hz => i64_wf (h5 z (List.mem_of_mem_take hz)), fun hn' => ⟨a', rfl, ?_, fun i hi => ?_⟩, fun e => by cases e⟩
        · exact hlt (.cell a'.block (a'.off + 0)) (List.mem_append.2 (.inr (List.mem_flatMap.2 ⟨j, List.mem_range.2 (by omega), by rw [hA]; simp only [intRowPlaces]; exact MemPlace.mem_row.2 ⟨0, by omega, rfl⟩⟩)))
        · rw [hel j i hi]; exact hb i (by omega)

set_option maxRecDepth 100000 in
theorem open_tab {r : Reach} {b0 : Nat} {v : Value} {d : DataW H} {p : List MemPlace} (hv : Value.okWide Try.prog w r b0 37 v) (h : DataW.Trod enc Try.prog w base (fun _ => true) held 37 v d p)
    (hw : ∀ x ∈ d.weights Try.prog 37, x ≤ reachBytes) (hlt : ∀ x ∈ p, x.block < w.heap.size) : ∃ (A0 : Option Addr) (n0 c0 : Nat) (A1 : Option Addr) (n1 c1 : Nat) (A2 : Option Addr) (n2 c2 : Nat) (ds ps : List Int) (rows : List (List Int)), v = tabA A0 n0 c0 A1 n1 c1 A2 n2 c2 ∧ Ints w A0 n0 c0 ds ∧ Ints w A1 n1 c1 ps ∧ Tab w A2 n2 c2 rows := by
  obtain ⟨v0, v1, v2, y0, y1, y2, n', rfl, hd, hp, t0, t1, t2⟩ := open_agg3 Try.underlying37 (by kernel_rfl) (by kernel_rfl) hv h
  subst hd hp
  obtain ⟨A0, n0, k0, ds, rfl, h0⟩ := list_trod t0 (fun x hx => hw x (by
    simp only [DataW.weights, Try.underlying37, List.map_cons, List.map_nil, DataW.weightsEach, List.mem_append]
    exact .inl hx)) (fun x hx => hlt x (by simp [hx]))
  obtain ⟨A1, n1, k1, ps, rfl, h1⟩ := list_trod t1 (fun x hx => hw x (by
    simp only [DataW.weights, Try.underlying37, List.map_cons, List.map_nil, DataW.weightsEach, List.mem_append]
    exact .inr (.inl hx))) (fun x hx => hlt x (by simp [hx]))
  obtain ⟨A2, n2, k2, rows, rfl, h2⟩ := rows_trod t2 (fun x hx => hw x (by
    simp only [DataW.weights, Try.underlying37, List.map_cons, List.map_nil, DataW.weightsEach, List.mem_append]
    exact .inr (.inr (.inl hx)))) (fun x hx => hlt x (by simp [hx]))
  exact ⟨A0, n0, k0, A1, n1, k1, A2, n2, k2, ds, ps, rows, rfl, h0, h1, h2⟩
end
end Go.Proofs.Ytfhikdgdckfalaa
