/- Slices of slices of integers that read as lists of lists. -/
import Derived.Test.YtihaabdgligbbaaArgs
import Derived.Deep.Matrix
namespace Go.Proofs.Ytihaabdgligbbaa
open Go.ChangeShapes Go.WideShapes Go.RowKit Go.Deep
set_option linter.unusedVariables false

/-- The row k of a list of rows, none behind its end. -/
def tl (ts : List (List Int)) (k : Nat) : List Int := ts.getD k []
theorem tl_mem {ts : List (List Int)} {k : Nat} (h : k < ts.length) : tl ts k ∈ ts := by
  unfold tl; rw [List.getD_eq_getElem?_getD, List.getElem?_eq_getElem h]; exact List.getElem_mem h
theorem tl_of_mem {ts : List (List Int)} {l : List Int} (h : l ∈ ts) : ∃ k, k < ts.length ∧ tl ts k = l := by
  obtain ⟨k, hk, rfl⟩ := List.getElem_of_mem h
  exact ⟨k, hk, by unfold tl; rw [List.getD_eq_getElem?_getD, List.getElem?_eq_getElem hk]; rfl⟩
/-- The slice with base A, length n, capacity c reads as the rows ts. -/
structure Tab (w : World) (A : Option Addr) (n c : Nat) (ts : List (List Int)) : Prop where
  len : ts.length = n
  cap : n ≤ c
  max : c ≤ 9223372036854775807
  few : n ≤ 17592186044416
  mem : 0 < n → ∃ ad, A = some ad ∧ ad.block < w.heap.size ∧ ∀ j, j < n → ∃ A' n' c', w.cell? (ad.add j) = some (.slice A' n' c') ∧ Ints w A' n' c' (tl ts j)
  nl : A = none → c = 0

section
variable {w w' : World} {A : Option Addr} {n c : Nat} {ts : List (List Int)}
theorem Tab.nil (w : World) : Tab w none 0 0 [] := ⟨rfl, Nat.le_refl _, by omega, by omega, fun h => absurd h (by omega), fun _ => rfl⟩
theorem Tab.at_ (h : Tab w A n c ts) {k : Nat} (hk : k < n) : ∃ ad A' n' c', A = some ad ∧ ad.block < w.heap.size ∧ w.cell? (ad.add k) = some (.slice A' n' c') ∧ Ints w A' n' c' (tl ts k) := by
  obtain ⟨ad, e, hb, hc⟩ := h.mem (by omega)
  obtain ⟨A', n', c', h1, h2⟩ := hc k hk
  exact ⟨ad, A', n', c', e, hb, h1, h2⟩
theorem Tab.below (h : Tab w A n c ts) (hb : Below w.heap.size w w') : Tab w' A n c ts :=
  ⟨h.len, h.cap, h.max, h.few, fun hn => by
    obtain ⟨ad, e, hl, hc⟩ := h.mem hn
    refine ⟨ad, e, Nat.lt_of_lt_of_le hl hb.size, fun j hj => ?_⟩
    obtain ⟨A', n', c', h1, h2⟩ := hc j hj
    exact ⟨A', n', c', (hb.cell (p := ad.add j) (by rw [block_of_add]; exact hl)).trans h1, h2.below hb⟩, h.nl⟩
theorem Tab.alloc (h : Tab w A n c ts) (o : Obj) : Tab (w.alloc o) A n c ts := h.below ((Below.refl _ _).alloc (Nat.le_refl _) o)
theorem Tab.drewN (h : Tab w A n c ts) (k : Nat) : Tab (w.drewN k) A n c ts := h.below (below_drewN (Below.refl _ _) k)
end

theorem bytesRow : Try.prog.bytesOf 23 = 24 := by kernel_rfl
theorem cellsRow : Try.prog.cellsOf 23 = 1 := by kernel_rfl

section
variable {H : Type} {enc : TypeId × Value → H} {w : World} {base : Nat} {held : Bool}
theorem weightsAll_mem {P : Program} {e : TypeId} : ∀ {l : List (DataW H)} {d : DataW H}, d ∈ l → ∀ x ∈ d.weights P e, x ∈ DataW.weightsAll P e l
  | d' :: r, d, h, x, hx => by
    rw [DataW.weightsAll, List.mem_append]
    rcases List.mem_cons.1 h with rfl | h
    · exact .inl hx
    · exact .inr (weightsAll_mem h x hx)
theorem open_rows {r : Reach} {b0 : Nat} {v : Value} {d : DataW H} {p : List MemPlace} (hv : Value.okWide Try.prog w r b0 22 v) (h : DataW.Trod enc Try.prog w base (fun _ => true) held 22 v d p)
    (hw : ∀ x ∈ d.weights Try.prog 22, x ≤ reachBytes) (hlt : ∀ x ∈ p, x.block < w.heap.size) : ∃ A n c ts, v = .slice A n c ∧ Tab w A n c ts := by
  obtain ⟨A, n, c, rfl⟩ := okWide_slice Try.underlying22 hv
  obtain ⟨m, hm⟩ := h
  rcases open_int_rows Try.underlying22 Try.underlying23 Try.underlying3 cellsRow cellsInt hm with ⟨hcs, hx⟩ | ⟨a, len, cap, A', L, C, Z, hcs, _, hl, hmx, hx, hrows⟩
  · simp [Value.cells] at hcs
    obtain ⟨rfl, rfl, rfl⟩ := hcs
    exact ⟨none, 0, 0, [], rfl, Tab.nil w⟩
  · simp [Value.cells] at hcs
    obtain ⟨rfl, rfl, rfl⟩ := hcs
    injection hx with hd hp
    subst hd
    subst hp
    have hml : maxLen = 9223372036854775807 := by kernel_rfl
    have hsz := hw ((((List.range n).map fun r => intRow (H := H) .i64 (A' r) (L r) (Z r)).length + ((List.range (c - n)).map fun j => intRow (H := H) .i64 (A' (n + j)) (L (n + j)) (Z (n + j))).length) * Try.prog.bytesOf 23) (by simp [DataW.weights, Try.underlying22])
    rw [bytesRow] at hsz
    simp only [List.length_map, List.length_range, reachBytes] at hsz
    have hel : ∀ r j, j < L r → el ((Z r).take (L r)) j = (Z r).getD j 0 := fun r j hj => by
      unfold el; rw [List.getD_eq_getElem?_getD, List.getD_eq_getElem?_getD, List.getElem?_take, if_pos hj]
    refine ⟨some a, n, c, (List.range n).map fun r => (Z r).take (L r), rfl, by simp, hl, by rw [hml] at hmx; omega, by omega, fun hn => ⟨a, rfl, ?_, fun j hj => ?_⟩, fun e => by cases e⟩
    · exact hlt (.cell a.block (a.off + 0)) (List.mem_append.2 (.inl (MemPlace.mem_row.2 ⟨0, by omega, rfl⟩)))
    · obtain ⟨h1, h2, h3, h4, h5, h6, h7⟩ := hrows j (by omega)
      have htl : tl ((List.range n).map fun r => (Z r).take (L r)) j = (Z j).take (L j) := by
        unfold tl; simp [List.getD_eq_getElem?_getD, List.getElem?_map, List.getElem?_range hj]
      refine ⟨A' j, L j, C j, h1, ?_⟩
      rw [htl]
      cases hA : A' j with
      | none =>
        have hc := h6 hA
        have hL : L j = 0 := by omega
        rw [hL, hc]
        exact Ints.nil w
      | some a' =>
        have hb := (h7 a' hA).2
        have hmem : intRow (H := H) .i64 (A' j) (L j) (Z j) ∈ (List.range n).map fun r => intRow (H := H) .i64 (A' r) (L r) (Z r) := List.mem_map.2 ⟨j, List.mem_range.2 hj, rfl⟩
        have hs2 := hw (((lits (H := H) .i64 ((Z j).take (L j))).length + (lits (H := H) .i64 ((Z j).drop (L j))).length) * Try.prog.bytesOf 3) (by
          simp only [DataW.weights, Try.underlying22, List.mem_cons, List.mem_append]
          exact .inr (.inl (weightsAll_mem hmem _ (by rw [hA]; simp [intRow, DataW.weights, Try.underlying23]))))
        rw [bytesInt] at hs2
        simp only [lits, List.length_map, List.length_take, List.length_drop, reachBytes] at hs2
        refine ⟨by rw [List.length_take]; omega, h2, by rw [hml] at h3; omega, by omega, fun z hz => i64_wf (h5 z (List.mem_of_mem_take hz)), fun hn' => ⟨a', rfl, ?_, fun i hi => ?_⟩, fun e => by cases e⟩
        · exact hlt (.cell a'.block (a'.off + 0)) (List.mem_append.2 (.inr (List.mem_flatMap.2 ⟨j, List.mem_range.2 (by omega), by rw [hA]; simp only [intRowPlaces]; exact MemPlace.mem_row.2 ⟨0, by omega, rfl⟩⟩)))
        · rw [hel j i hi]; exact hb i (by omega)
end
end Go.Proofs.Ytihaabdgligbbaa
