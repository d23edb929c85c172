/- A slice of integers that comes in, as the walks have it. -/
import Derived.Test.YtchnfahgmceohaaMReads00
import Derived.Test.YtchnfahgmceohaaProg
import Derived.ChangeSlices
import Derived.SizedLaws
import Derived.KernelRfl
import Derived.ChangeReads
import Derived.Test.YtchnfahgmceohaaMReads10
import Derived.Deep.Slices
import Derived.Deep.Fields
import Derived.ChangeSame
import Derived.Lib.SmallJoins

namespace Go.Proofs.Ytchnfahgmceohaa
open Go.ChangeShapes Go.WideShapes Go.RowKit
set_option linter.unusedVariables false

theorem i64_wf {n : Int} (h : (Lit.int .i64 n).wf = true) : -9223372036854775808 ≤ n ∧ n ≤ 9223372036854775807 := by
  unfold Lit.wf at h
  simp at h
  have h1 : IntKind.i64.min = -9223372036854775808 := by kernel_rfl
  have h2 : IntKind.i64.max = 9223372036854775807 := by kernel_rfl
  omega
theorem cellsInt : Try.prog.cellsOf 3 = 1 := by kernel_rfl
theorem bytesInt : Try.prog.bytesOf 3 = 8 := by kernel_rfl

section
variable {H : Type} {enc : TypeId × Value → H} {w : World} {base : Nat} {held : Bool}
set_option maxRecDepth 100000 in
theorem open_list {r : Reach} {b0 : Nat} {v : Value} {d : DataW H} {p : List MemPlace} (hv : Value.okWide Try.prog w r b0 34 v) (h : DataW.Trod enc Try.prog w base (fun _ => true) held 34 v d p)
    (hw : ∀ x ∈ d.weights Try.prog 34, x ≤ reachBytes) (hlt : ∀ x ∈ p, x.block < w.heap.size) : ∃ A n c zs, v = .slice A n c ∧ Ints w A n c zs := by
  obtain ⟨A, n, c, rfl⟩ := okWide_slice Try.underlying34 hv
  obtain ⟨m, hm⟩ := h
  rcases open_ints Try.underlying34 Try.underlying3 cellsInt hm with ⟨hcs, hx⟩ | ⟨a, len, cap, zs, hcs, _, hl, hmx, hz, hx, hcell, hwz⟩
  · simp [Value.cells] at hcs
    obtain ⟨rfl, rfl, rfl⟩ := hcs
    exact ⟨none, 0, 0, [], rfl, Ints.nil w⟩
  · simp [Value.cells] at hcs
    obtain ⟨rfl, rfl, rfl⟩ := hcs
    rw [if_pos rfl] at hz
    injection hx with hd hp
    subst hd
    subst hp
    have hsz := hw ((( (lits (H := H) .i64 (zs.take n)).length + (lits (H := H) .i64 (zs.drop n)).length)) * Try.prog.bytesOf 3) (by simp [DataW.weights, Try.underlying34])
    rw [bytesInt] at hsz
    simp only [lits, List.length_map, List.length_take, List.length_drop, reachBytes] at hsz
    have hel : ∀ j, j < n → el (zs.take n) j = zs.getD j 0 := fun j hj => by
      unfold el; rw [List.getD_eq_getElem?_getD, List.getD_eq_getElem?_getD, List.getElem?_take, if_pos hj]
    refine ⟨some a, n, c, zs.take n, rfl, by rw [List.length_take]; omega, hl, by omega, by omega, fun z hz => i64_wf (hwz z (List.mem_of_mem_take hz)), fun hn => ⟨a, rfl, ?_, fun j hj => ?_⟩, fun e => by cases e⟩
    · exact hlt (.cell a.block (a.off + 0)) (MemPlace.mem_row.2 ⟨0, by omega, rfl⟩)
    · rw [hel j hj]; exact hcell j (by omega)
end
end Go.Proofs.Ytchnfahgmceohaa

/- Records that come in, as the walks have them: one by value, a slice of them. -/
namespace Go.Proofs.Ytchnfahgmceohaa
open Go.ChangeShapes Go.WideShapes Go.RowKit Go.Deep Go.Joins
set_option linter.unusedVariables false

theorem bytesSer : Try.prog.bytesOf 36 = 40 := by kernel_rfl
theorem weightsAll_mem' {H : Type} {P : Program} {e : TypeId} : ∀ {l : List (DataW H)} {d : DataW H}, d ∈ l → ∀ x ∈ d.weights P e, x ∈ DataW.weightsAll P e l
  | d' :: r, d, h, x, hx => by
    rw [DataW.weightsAll, List.mem_append]
    rcases List.mem_cons.1 h with rfl | h
    · exact .inl hx
    · exact .inr (weightsAll_mem' h x hx)

section
variable {H : Type} {enc : TypeId × Value → H} {P : Program} {w : World} {base : Nat} {spare : Nat → Bool} {held : Bool}
/-- A slice of structs of one-cell fields: for each element and field the cell, and the field's own reading. -/
theorem open_slice_fields {t e : TypeId} {fs : Array Field} {fuel : Nat} {cs : List Value} {x : DataW H × List MemPlace} (ht : P.underlying t = some (.slice e)) (he : P.underlying e = some (.struct fs))
    (hone : oneCellFields P fs = true) (hC : P.cellsOf e = fs.size) (h : DataW.trod enc P w base spare held fuel t cs = some x) :
    (cs = [.slice none 0 0] ∧ x = (.nil, [])) ∨
    ∃ (a : Addr) (len cap m : Nat) (D : Nat → DataW H) (Pl : Nat → List MemPlace), cs = [.slice (some a) len cap] ∧ base ≤ a.block ∧ len ≤ cap ∧ cap ≤ maxLen ∧ m = (if spare a.block then cap else len) ∧
      x = (.slice ((List.range len).map D) ((List.range (m - len)).map fun j => D (len + j)), MemPlace.row a (m * fs.size) ++ (List.range m).flatMap Pl) ∧
      ∀ i, i < m → ∃ (ys : List (DataW H × List MemPlace)) (n : Nat), D i = .agg (ys.map (·.1)) ∧ Pl i = ys.flatMap (·.2) ∧ ys.length = fs.size ∧
        ∀ (j : Nat) (f : Field), fs[j]? = some f → ∃ (v : Value) (y : DataW H × List MemPlace), w.cell? (a.add (i * fs.size + j)) = some v ∧ ys[j]? = some y ∧ DataW.trod enc P w base spare held n f.type [v] = some y := by
  rcases open_slice ht h with h0 | ⟨a, len, cap, m, n, D, Pl, hcs, hb, hl, hm, hmm, hx, hi⟩
  · exact .inl h0
  · refine .inr ⟨a, len, cap, m, D, Pl, hcs, hb, hl, hm, hmm, by rw [hC] at hx; exact hx, fun i him => ?_⟩
    obtain ⟨cs', hc, ht'⟩ := hi i him
    rw [hC] at hc
    obtain ⟨ys, n', hn', hy, hlen, hyl, hf⟩ := DataW.trod_struct he ht'
    obtain ⟨_, hcl, hat⟩ := World.cells?_some hc
    simp only [Prod.mk.injEq] at hy
    refine ⟨ys, n', hy.1, hy.2, hyl, fun j f hj => ?_⟩
    obtain ⟨ho, hk⟩ := hone_of hone j f hj
    have hjl : j < fs.size := (Array.getElem?_eq_some_iff.1 hj).1
    have hcell := hat j hjl
    have hv : cs'[j]? = some (cs'[j]'(by omega)) := List.getElem?_eq_getElem (by omega)
    have h1 := hf j f hj
    rw [ho, hk] at h1
    have hone' : (cs'.drop j).take 1 = [cs'[j]'(by omega)] := by
      rw [List.drop_eq_getElem_cons (by omega)]
      rfl
    rw [hone'] at h1
    have hys : ys[j]? = some (ys[j]'(by omega)) := List.getElem?_eq_getElem (by omega)
    refine ⟨_, _, ?_, hys, h1.trans hys⟩
    rw [← Go.Deep.add_add, hcell, hv]
end

section
variable {H : Type} {enc : TypeId × Value → H} {w : World} {base : Nat} {held : Bool}
set_option maxRecDepth 100000 in
theorem list_trod {m : Nat} {v : Value} {y : DataW H × List MemPlace} (hm : DataW.trod enc Try.prog w base (fun _ => true) held m 34 [v] = some y)
    (hw : ∀ x ∈ y.1.weights Try.prog 34, x ≤ reachBytes) (hlt : ∀ x ∈ y.2, x.block < w.heap.size) : ∃ A n c zs, v = .slice A n c ∧ Ints w A n c zs := by
  rcases open_ints Try.underlying34 Try.underlying3 cellsInt hm with ⟨hcs, hx⟩ | ⟨a, len, cap, zs, hcs, _, hl, hmx, hz, hx, hcell, hwz⟩
  · injection hcs with hcs
    exact ⟨none, 0, 0, [], hcs, Ints.nil w⟩
  · injection hcs with hcs
    rw [if_pos rfl] at hz
    subst hx
    have hsz := hw (((lits (H := H) .i64 (zs.take len)).length + (lits (H := H) .i64 (zs.drop len)).length) * Try.prog.bytesOf 3) (by simp [DataW.weights, Try.underlying34])
    rw [bytesInt] at hsz
    simp only [lits, List.length_map, List.length_take, List.length_drop, reachBytes] at hsz
    have hml : maxLen = 9223372036854775807 := by kernel_rfl
    rw [hml] at hmx
    have hel : ∀ j, j < len → el (zs.take len) j = zs.getD j 0 := fun j hj => by
      unfold el; rw [List.getD_eq_getElem?_getD, List.getD_eq_getElem?_getD, List.getElem?_take, if_pos hj]
    refine ⟨some a, len, cap, zs.take len, hcs, by rw [List.length_take]; omega, hl, by omega, by omega, fun z hz => i64_wf (hwz z (List.mem_of_mem_take hz)), fun hn => ⟨a, rfl, ?_, fun j hj => ?_⟩, fun e => by cases e⟩
    · exact hlt (.cell a.block (a.off + 0)) (MemPlace.mem_row.2 ⟨0, by omega, rfl⟩)
    · rw [hel j hj]; exact hcell j (by omega)
theorem int_trod {m : Nat} {v : Value} {y : DataW H × List MemPlace} (hm : DataW.trod enc Try.prog w base (fun _ => true) held m 3 [v] = some y) : ∃ z : Int, v = .int .i64 z ∧ -9223372036854775808 ≤ z ∧ z ≤ 9223372036854775807 := by
  obtain ⟨z, hz, _, hw⟩ := DataW.trod_int Try.underlying3 hm
  injection hz with hz
  exact ⟨z, hz, i64_wf hw⟩

set_option maxRecDepth 100000 in
theorem open_sers {r : Reach} {b0 : Nat} {v : Value} {d : DataW H} {p : List MemPlace} (hv : Value.okWide Try.prog w r b0 22 v) (h : DataW.Trod enc Try.prog w base (fun _ => true) held 22 v d p)
    (hw : ∀ x ∈ d.weights Try.prog 22, x ≤ reachBytes) (hlt : ∀ x ∈ p, x.block < w.heap.size) : ∃ A n c ss, v = .slice A n c ∧ Sers w A n c ss := by
  obtain ⟨A, n, c, rfl⟩ := okWide_slice Try.underlying22 hv
  obtain ⟨m, hm⟩ := h
  rcases open_slice_fields Try.underlying22 Try.underlying36 (by kernel_rfl) (by kernel_rfl) hm with ⟨hcs, hx⟩ | ⟨a, len, cap, mm, D, Pl, hcs, _, hl, hmx, hmm, hx, hi⟩
  · simp [Value.cells] at hcs
    obtain ⟨rfl, rfl, rfl⟩ := hcs
    exact ⟨none, 0, 0, [], rfl, Sers.nil w⟩
  · simp [Value.cells] at hcs
    obtain ⟨rfl, rfl, rfl⟩ := hcs
    rw [if_pos rfl] at hmm
    subst hmm
    injection hx with hd hp
    subst hd
    subst hp
    have hml : maxLen = 9223372036854775807 := by kernel_rfl
    have hsz := hw ((((List.range n).map D).length + ((List.range (mm - n)).map fun j => D (n + j)).length) * Try.prog.bytesOf 36) (by simp [DataW.weights, Try.underlying22])
    rw [bytesSer] at hsz
    simp only [List.length_map, List.length_range, reachBytes] at hsz
    have one : ∀ i, i < n → ∃ s : SerD, SerAt w (a.add (i * 3)) s := fun i hin => by
      obtain ⟨ys, n', hDi, hPi, hyl, hf⟩ := hi i (by omega)
      obtain ⟨v0, y0, c0, e0, t0⟩ := hf 0 _ rfl
      obtain ⟨v1, y1, c1, e1, t1⟩ := hf 1 _ rfl
      obtain ⟨v2, y2, c2, e2, t2⟩ := hf 2 _ rfl
      obtain ⟨z0, rfl, _⟩ := int_trod t0
      obtain ⟨z1, rfl, _⟩ := int_trod t1
      have hys : ys = [y0, y1, y2] := by
        match ys, hyl with
        | [q0, q1, q2], _ => simp at e0 e1 e2; rw [e0, e1, e2]
      have hwi : ∀ x ∈ y2.1.weights Try.prog 34, x ≤ reachBytes := fun x hx => by
        refine hw x ?_
        simp only [DataW.weights, Try.underlying22, List.mem_cons, List.mem_append]
        refine .inr (.inl (weightsAll_mem' (List.mem_map.2 ⟨i, List.mem_range.2 hin, rfl⟩) x ?_))
        rw [hDi, hys]
        simp only [DataW.weights, Try.underlying36, List.map_cons, List.map_nil, DataW.weightsEach, List.mem_append]
        exact .inr (.inr (.inl hx))
      have hli : ∀ x ∈ y2.2, x.block < w.heap.size := fun x hx => by
        refine hlt x (List.mem_append.2 (.inr (List.mem_flatMap.2 ⟨i, List.mem_range.2 (by omega), ?_⟩)))
        rw [hPi, hys]
        simp [hx]
      obtain ⟨A2, n2, k2, ds, rfl, hI⟩ := list_trod t2 hwi hli
      refine ⟨⟨z0, z1, ds⟩, ⟨A2, n2, k2, ?_, ?_, ?_, hI⟩⟩
      · exact c0
      · have := c1; rw [← Go.Deep.add_add] at this; exact this
      · have := c2; rw [← Go.Deep.add_add] at this; exact this
    refine ⟨some a, n, _, (List.range n).map fun i => if h : i < n then Classical.choose (one i h) else ⟨0, 0, []⟩, rfl, by rw [List.length_map, List.length_range], hl, by rw [hml] at hmx; omega, by omega, fun hn => ⟨a, rfl, ?_, fun j hj => ?_⟩, fun e => by cases e⟩
    · exact hlt (.cell a.block (a.off + 0)) (List.mem_append.2 (.inl (MemPlace.mem_row.2 ⟨0, Nat.mul_pos (by omega) (by decide), rfl⟩)))
    · have hsl : sl ((List.range n).map fun i => if h : i < n then Classical.choose (one i h) else ⟨0, 0, []⟩) j = Classical.choose (one j hj) := by
        unfold sl
        rw [List.getD_eq_getElem?_getD, List.getElem?_map, List.getElem?_range hj]
        simp [hj]
      rw [hsl]
      exact Classical.choose_spec (one j hj)

set_option maxRecDepth 100000 in
theorem open_ser {r : Reach} {b0 : Nat} {v : Value} {d : DataW H} {p : List MemPlace} (hv : Value.okWide Try.prog w r b0 36 v) (h : DataW.Trod enc Try.prog w base (fun _ => true) held 36 v d p)
    (hw : ∀ x ∈ d.weights Try.prog 36, x ≤ reachBytes) (hlt : ∀ x ∈ p, x.block < w.heap.size) : ∃ (f st : Int) (A : Option Addr) (n c : Nat) (ds : List Int), v = serA f st A n c ∧ Ints w A n c ds ∧ (-9223372036854775808 ≤ f ∧ f ≤ 9223372036854775807) ∧ (-9223372036854775808 ≤ st ∧ st ≤ 9223372036854775807) := by
  obtain ⟨v0, v1, v2, y0, y1, y2, n', rfl, hd, hp, t0, t1, t2⟩ := open_agg3 Try.underlying36 (by kernel_rfl) (by kernel_rfl) hv h
  obtain ⟨z0, rfl, b0⟩ := int_trod t0
  obtain ⟨z1, rfl, b1⟩ := int_trod t1
  subst hd hp
  obtain ⟨A2, n2, k2, ds, rfl, hI⟩ := list_trod t2 (fun x hx => hw x (by
    simp only [DataW.weights, Try.underlying36, List.map_cons, List.map_nil, DataW.weightsEach, List.mem_append]
    exact .inr (.inr (.inl hx)))) (fun x hx => hlt x (by simp [hx]))
  exact ⟨z0, z1, A2, n2, k2, ds, rfl, hI, b0, b1⟩
end
end Go.Proofs.Ytchnfahgmceohaa
