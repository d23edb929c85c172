/- A slice of integers that comes in, as the walks have it. -/
import Derived.Test.YtfhikdgdckfalaaMB00
import Derived.Test.YtfhikdgdckfalaaProg
import Derived.ChangeSlices
import Derived.SizedLaws
import Derived.KernelRfl
import Derived.ChangeReads
import Derived.Deep.Matrix
import Derived.Test.YtfhikdgdckfalaaMB03
import Derived.Deep.RegionHeld3
import Derived.BigQuiet
import Derived.Deep.DeepCutAuto

namespace Go.Proofs.Ytfhikdgdckfalaa
open Go.ChangeShapes Go.WideShapes Go.RowKit
set_option linter.unusedVariables false

theorem i64_wf {n : Int} (h : (Lit.int .i64 n).wf = true) : -9223372036854775808 ≤ n ∧ n ≤ 9223372036854775807 := by
  unfold Lit.wf at h
  simp at h
  have h1 : IntKind.i64.min = -9223372036854775808 := by kernel_rfl
  have h2 : IntKind.i64.max = 9223372036854775807 := by kernel_rfl
  omega
theorem cellsInt : Try.prog.cellsOf 3 = 1 := by kernel_rfl
theorem bytesInt : Try.prog.bytesOf 3 = 8 := by kernel_rfl

section
variable {H : Type} {enc : TypeId × Value → H} {w : World} {base : Nat} {held : Bool}
set_option maxRecDepth 100000 in
theorem open_list {r : Reach} {b0 : Nat} {v : Value} {d : DataW H} {p : List MemPlace} (hv : Value.okWide Try.prog w r b0 23 v) (h : DataW.Trod enc Try.prog w base (fun _ => true) held 23 v d p)
    (hw : ∀ x ∈ d.weights Try.prog 23, x ≤ reachBytes) (hlt : ∀ x ∈ p, x.block < w.heap.size) : ∃ A n c zs, v = .slice A n c ∧ Ints w A n c zs := by
  obtain ⟨A, n, c, rfl⟩ := okWide_slice Try.underlying23 hv
  obtain ⟨m, hm⟩ := h
  rcases open_ints Try.underlying23 Try.underlying3 cellsInt hm with ⟨hcs, hx⟩ | ⟨a, len, cap, zs, hcs, _, hl, hmx, hz, hx, hcell, hwz⟩
  · simp [Value.cells] at hcs
    obtain ⟨rfl, rfl, rfl⟩ := hcs
    exact ⟨none, 0, 0, [], rfl, Ints.nil w⟩
  · simp [Value.cells] at hcs
    obtain ⟨rfl, rfl, rfl⟩ := hcs
    rw [if_pos rfl] at hz
    injection hx with hd hp
    subst hd
    subst hp
    have hsz := hw ((( (lits (H := H) .i64 (zs.take n)).length + (lits (H := H) .i64 (zs.drop n)).length)) * Try.prog.bytesOf 3) (by simp [DataW.weights, Try.underlying23])
    rw [bytesInt] at hsz
    simp only [lits, List.length_map, List.length_take, List.length_drop, reachBytes] at hsz
    have hel : ∀ j, j < n → el (zs.take n) j = zs.getD j 0 := fun j hj => by
      unfold el; rw [List.getD_eq_getElem?_getD, List.getD_eq_getElem?_getD, List.getElem?_take, if_pos hj]
    refine ⟨some a, n, c, zs.take n, rfl, by rw [List.length_take]; omega, hl, by omega, by omega, fun z hz => i64_wf (hwz z (List.mem_of_mem_take hz)), fun hn => ⟨a, rfl, ?_, fun j hj => ?_⟩, fun e => by cases e⟩
    · exact hlt (.cell a.block (a.off + 0)) (MemPlace.mem_row.2 ⟨0, by omega, rfl⟩)
    · rw [hel j hj]; exact hcell j (by omega)
end
end Go.Proofs.Ytfhikdgdckfalaa

/- Slices of slices of integers that read as lists of lists. -/
namespace Go.Proofs.Ytfhikdgdckfalaa
open Go.ChangeShapes Go.WideShapes Go.RowKit Go.Deep
set_option linter.unusedVariables false

/-- The row k of a list of rows, none behind its end. -/
def tl (ts : List (List Int)) (k : Nat) : List Int := ts.getD k []
theorem tl_mem {ts : List (List Int)} {k : Nat} (h : k < ts.length) : tl ts k ∈ ts := by
  unfold tl; rw [List.getD_eq_getElem?_getD, List.getElem?_eq_getElem h]; exact List.getElem_mem h
theorem tl_of_mem {ts : List (List Int)} {l : List Int} (h : l ∈ ts) : ∃ k, k < ts.length ∧ tl ts k = l := by
  obtain ⟨k, hk, rfl⟩ := List.getElem_of_mem h
  exact ⟨k, hk, by unfold tl; rw [List.getD_eq_getElem?_getD, List.getElem?_eq_getElem hk]; rfl⟩
/-- The slice with base A, length n, capacity c reads as the rows ts. -/
structure Tab (w : World) (A : Option Addr) (n c : Nat) (ts : List (List Int)) : Prop where
  len : ts.length = n
  cap : n ≤ c
  max : c ≤ 9223372036854775807
  few : n ≤ 17592186044416
  mem : 0 < n → ∃ ad, A = some ad ∧ ad.block < w.heap.size ∧ ∀ j, j < n → ∃ A' n' c', w.cell? (ad.add j) = some (.slice A' n' c') ∧ Ints w A' n' c' (tl ts j)
  nl : A = none → c = 0

section
variable {w w' : World} {A : Option Addr} {n c : Nat} {ts : List (List Int)}
theorem Tab.nil (w : World) : Tab w none 0 0 [] := ⟨rfl, Nat.le_refl _, by omega, by omega, fun h => absurd h (by omega), fun _ => rfl⟩
theorem Tab.at_ (h : Tab w A n c ts) {k : Nat} (hk : k < n) : ∃ ad A' n' c', A = some ad ∧ ad.block < w.heap.size ∧ w.cell? (ad.add k) = some (.slice A' n' c') ∧ Ints w A' n' c' (tl ts k) := by
  obtain ⟨ad, e, hb, hc⟩ := h.mem (by omega)
  obtain ⟨A', n', c', h1, h2⟩ := hc k hk
  exact ⟨ad, A', n', c', e, hb, h1, h2⟩
theorem Tab.below (h : Tab w A n c ts) (hb : Below w.heap.size w w') : Tab w' A n c ts :=
  ⟨h.len, h.cap, h.max, h.few, fun hn => by
    obtain ⟨ad, e, hl, hc⟩ := h.mem hn
    refine ⟨ad, e, Nat.lt_of_lt_of_le hl hb.size, fun j hj => ?_⟩
    obtain ⟨A', n', c', h1, h2⟩ := hc j hj
    exact ⟨A', n', c', (hb.cell (p := ad.add j) (by rw [block_of_add]; exact hl)).trans h1, h2.below hb⟩, h.nl⟩
theorem Tab.alloc (h : Tab w A n c ts) (o : Obj) : Tab (w.alloc o) A n c ts := h.below ((Below.refl _ _).alloc (Nat.le_refl _) o)
theorem Tab.drewN (h : Tab w A n c ts) (k : Nat) : Tab (w.drewN k) A n c ts := h.below (below_drewN (Below.refl _ _) k)
end

theorem bytesRow : Try.prog.bytesOf 23 = 24 := by kernel_rfl
theorem cellsRow : Try.prog.cellsOf 23 = 1 := by kernel_rfl

section
variable {H : Type} {enc : TypeId × Value → H} {w : World} {base : Nat} {held : Bool}
theorem weightsAll_mem {P : Program} {e : TypeId} : ∀ {l : List (DataW H)} {d : DataW H}, d ∈ l → ∀ x ∈ d.weights P e, x ∈ DataW.weightsAll P e l
  | d' :: r, d, h, x, hx => by
    rw [DataW.weightsAll, List.mem_append]
    rcases List.mem_cons.1 h with rfl | h
    · exact .inl hx
    · exact .inr (weightsAll_mem h x hx)
set_option maxRecDepth 100000 in
theorem open_rows {r : Reach} {b0 : Nat} {v : Value} {d : DataW H} {p : List MemPlace} (hv : Value.okWide Try.prog w r b0 35 v) (h : DataW.Trod enc Try.prog w base (fun _ => true) held 35 v d p)
    (hw : ∀ x ∈ d.weights Try.prog 35, x ≤ reachBytes) (hlt : ∀ x ∈ p, x.block < w.heap.size) : ∃ A n c ts, v = .slice A n c ∧ Tab w A n c ts := by
  obtain ⟨A, n, c, rfl⟩ := okWide_slice Try.underlying35 hv
  obtain ⟨m, hm⟩ := h
  rcases open_int_rows Try.underlying35 Try.underlying23 Try.underlying3 cellsRow cellsInt hm with ⟨hcs, hx⟩ | ⟨a, len, cap, A', L, C, Z, hcs, _, hl, hmx, hx, hrows⟩
  · simp [Value.cells] at hcs
    obtain ⟨rfl, rfl, rfl⟩ := hcs
    exact ⟨none, 0, 0, [], rfl, Tab.nil w⟩
  · simp [Value.cells] at hcs
    obtain ⟨rfl, rfl, rfl⟩ := hcs
    injection hx with hd hp
    subst hd
    subst hp
    have hml : maxLen = 9223372036854775807 := by kernel_rfl
    have hsz := hw ((((List.range n).map fun r => intRow (H := H) .i64 (A' r) (L r) (Z r)).length + ((List.range (c - n)).map fun j => intRow (H := H) .i64 (A' (n + j)) (L (n + j)) (Z (n + j))).length) * Try.prog.bytesOf 23) (by simp [DataW.weights, Try.underlying35])
    rw [bytesRow] at hsz
    simp only [List.length_map, List.length_range, reachBytes] at hsz
    have hel : ∀ r j, j < L r → el ((Z r).take (L r)) j = (Z r).getD j 0 := fun r j hj => by
      unfold el; rw [List.getD_eq_getElem?_getD, List.getD_eq_getElem?_getD, List.getElem?_take, if_pos hj]
    refine ⟨some a, n, c, (List.range n).map fun r => (Z r).take (L r), rfl, by simp, hl, by rw [hml] at hmx; omega, by omega, fun hn => ⟨a, rfl, ?_, fun j hj => ?_⟩, fun e => by cases e⟩
    · exact hlt (.cell a.block (a.off + 0)) (List.mem_append.2 (.inl (MemPlace.mem_row.2 ⟨0, by omega, rfl⟩)))
    · obtain ⟨h1, h2, h3, h4, h5, h6, h7⟩ := hrows j (by omega)
      have htl : tl ((List.range n).map fun r => (Z r).take (L r)) j = (Z j).take (L j) := by
        unfold tl; simp [List.getD_eq_getElem?_getD, List.getElem?_map, List.getElem?_range hj]
      refine ⟨A' j, L j, C j, h1, ?_⟩
      rw [htl]
      cases hA : A' j with
      | none =>
        have hc := h6 hA
        have hL : L j = 0 := by omega
        rw [hL, hc]
        exact Ints.nil w
      | some a' =>
        have hb := (h7 a' hA).2
        have hmem : intRow (H := H) .i64 (A' j) (L j) (Z j) ∈ (List.range n).map fun r => intRow (H := H) .i64 (A' r) (L r) (Z r) := List.mem_map.2 ⟨j, List.mem_range.2 hj, rfl⟩
        have hs2 := hw (((lits (H := H) .i64 ((Z j).take (L j))).length + (lits (H := H) .i64 ((Z j).drop (L j))).length) * Try.prog.bytesOf 3) (by
          simp only [DataW.weights, Try.underlying35, List.mem_cons, List.mem_append]
          exact .inr (.inl (weightsAll_mem hmem _ (by rw [hA]; simp [intRow, DataW.weights, Try.underlying23]))))
        rw [bytesInt] at hs2
        simp only [lits, List.length_map, List.length_take, List.length_drop, reachBytes] at hs2
        refine ⟨by rw [List.length_take]; omega, h2, by rw [hml] at h3; omega, by omega, fun z hz => i64_wf (h5 z (List.mem_of_mem_take hz)), fun hn' => ⟨a', rfl, ?_, fun i hi => ?_⟩, fun e => by cases e⟩
        · exact hlt (.cell a'.block (a'.off + 0)) (List.mem_append.2 (.inr (List.mem_flatMap.2 ⟨j, List.mem_range.2 (by omega), by rw [hA]; simp only [intRowPlaces]; exact MemPlace.mem_row.2 ⟨0, by omega, rfl⟩⟩)))
        · rw [hel j i hi]; exact hb i (by omega)
end
end Go.Proofs.Ytfhikdgdckfalaa

/- depth of the program: the depth of a valid table as a fraction. -/
namespace Go.Proofs.Ytfhikdgdckfalaa
open Go.RowKit
set_option linter.unusedVariables false

theorem plc_ok {l : List Int} {x m : Int} {p : Plc} (ha : Asc l) (hr : ∀ z ∈ l, 1 ≤ z ∧ z ≤ m) (hm : 1 ≤ m) (h : plcV l x = (p, true)) : ∃ i j : Nat, p.lo = i ∧ p.hi = j ∧ i < l.length ∧ j < l.length ∧ POk p m ∧ 0 < p.whole := by
  have hle := lb_le x l
  unfold plcV at h
  by_cases h1 : inL x l = true
  · rw [if_pos h1] at h
    injection h with h _
    subst h
    unfold inL at h1
    rw [Bool.and_eq_true, decide_eq_true_eq] at h1
    exact ⟨lbN x l, lbN x l, rfl, rfl, h1.1, h1.1, ⟨by simp, by simp, by simpa using hm⟩, by simp⟩
  · rw [if_neg h1] at h
    by_cases h2 : lbN x l = 0 ∨ lbN x l = l.length
    · rw [if_pos h2] at h
      injection h with _ h
      cases h
    · rw [if_neg h2] at h
      injection h with h _
      subst h
      have b1 := hr _ (el_mem (show lbN x l < l.length by omega))
      have b0 := hr _ (el_mem (show lbN x l - 1 < l.length by omega))
      have c0 := lb_lt (x := x) (l := l) (k := lbN x l - 1) (by omega)
      have c1 := lb_at (x := x) (l := l) (by omega)
      have c2 := ha (lbN x l - 1) (lbN x l) (by omega) (by omega)
      refine ⟨lbN x l - 1, lbN x l, by simp only; omega, rfl, by omega, by omega, ⟨?_, ?_, ?_⟩, ?_⟩ <;> (simp only; omega)
/-- A table: what the program asks of it, ahead of its order. -/
structure TOk (ds ps : List Int) (rows : List (List Int)) : Prop where
  da : Asc ds
  pa : Asc ps
  dr : ∀ z ∈ ds, 1 ≤ z ∧ z ≤ 2592000
  pr : ∀ z ∈ ps, 1 ≤ z ∧ z ≤ 10000
  rl : rows.length = ps.length
  cl : ∀ r ∈ rows, r.length = ds.length ∧ ∀ z ∈ r, 0 ≤ z ∧ z ≤ 4194304
def depV (ds ps : List Int) (rows : List (List Int)) (x y : Int) : Int × Int × Bool :=
  if (plcV ds x).2 = true ∧ (plcV ps y).2 = true then
    (mixV (plcV ps y).1 (mixV (plcV ds x).1 (el (tl rows (plcV ps y).1.lo.toNat) (plcV ds x).1.lo.toNat) (el (tl rows (plcV ps y).1.lo.toNat) (plcV ds x).1.hi.toNat))
      (mixV (plcV ds x).1 (el (tl rows (plcV ps y).1.hi.toNat) (plcV ds x).1.lo.toNat) (el (tl rows (plcV ps y).1.hi.toNat) (plcV ds x).1.hi.toNat)), (plcV ds x).1.whole * (plcV ps y).1.whole, true)
  else (0, 0, false)
abbrev tabA (A0 : Option Addr) (n0 c0 : Nat) (A1 : Option Addr) (n1 c1 : Nat) (A2 : Option Addr) (n2 c2 : Nat) : Value := .agg #[.slice A0 n0 c0, .slice A1 n1 c1, .slice A2 n2 c2]
abbrev tabO (A0 : Option Addr) (n0 c0 : Nat) (A1 : Option Addr) (n1 c1 : Nat) (A2 : Option Addr) (n2 c2 : Nat) : Obj := .cells #[.slice A0 n0 c0, .slice A1 n1 c1, .slice A2 n2 c2] 37
/-- Block g holds three values. -/
structure HBox (w : World) (g : Nat) (a b c : Value) : Prop where
  c0 : w.cell? ⟨g, 0, none⟩ = some a
  c1 : w.cell? ⟨g, 1, none⟩ = some b
  c2 : w.cell? ⟨g, 2, none⟩ = some c
  lt : g < w.heap.size
theorem HBox.made (w : World) (a b c : Value) (t : TypeId) : HBox (w.alloc (.cells #[a, b, c] t)) w.heap.size a b c :=
  ⟨by rw [World.cell?_alloc_new]; rfl, by rw [World.cell?_alloc_new]; rfl, by rw [World.cell?_alloc_new]; rfl, by simp⟩
theorem HBox.below {w w' : World} {g B : Nat} {a b c : Value} (h : HBox w g a b c) (hb : Below B w w') (hg : g < B) : HBox w' g a b c :=
  ⟨(hb.cell (p := ⟨g, 0, none⟩) hg).trans h.c0, (hb.cell (p := ⟨g, 1, none⟩) hg).trans h.c1, (hb.cell (p := ⟨g, 2, none⟩) hg).trans h.c2, Nat.lt_of_lt_of_le h.lt hb.size⟩

/-- The world of the last region: both places, the four elements. -/
structure Dp (w W : World) (g k : Nat) (a b c d e f o r : Int) (x1 x2 x3 x4 : Addr) (u1 u2 u3 u4 : Int) : Prop where
  p : PBox W g ⟨a, b, c, d⟩
  q : PBox W k ⟨e, f, o, r⟩
  e1 : W.cell? x1 = some (.int .i64 u1)
  e2 : W.cell? x2 = some (.int .i64 u2)
  e3 : W.cell? x3 = some (.int .i64 u3)
  e4 : W.cell? x4 = some (.int .i64 u4)
  l1 : x1.block < W.heap.size
  l2 : x2.block < W.heap.size
  l3 : x3.block < W.heap.size
  l4 : x4.block < W.heap.size
  bel : Below w.heap.size w W
theorem Dp.below {w W W' : World} {g k : Nat} {a b c d e f o r : Int} {x1 x2 x3 x4 : Addr} {u1 u2 u3 u4 : Int} (h : Dp w W g k a b c d e f o r x1 x2 x3 x4 u1 u2 u3 u4) (hb : Below W.heap.size W W') : Dp w W' g k a b c d e f o r x1 x2 x3 x4 u1 u2 u3 u4 :=
  ⟨h.p.below hb h.p.lt, h.q.below hb h.q.lt, (hb.cell h.l1).trans h.e1, (hb.cell h.l2).trans h.e2, (hb.cell h.l3).trans h.e3, (hb.cell h.l4).trans h.e4, Nat.lt_of_lt_of_le h.l1 hb.size, Nat.lt_of_lt_of_le h.l2 hb.size, Nat.lt_of_lt_of_le h.l3 hb.size, Nat.lt_of_lt_of_le h.l4 hb.size, below_then h.bel hb h.bel.size⟩
theorem Dp.cells {w W : World} {g k : Nat} {a b c d e f o r : Int} {x1 x2 x3 x4 : Addr} {u1 u2 u3 u4 : Int} (h : Dp w W g k a b c d e f o r x1 x2 x3 x4 u1 u2 u3 u4) : W.cell? ⟨g, 0, none⟩ = some (.int .i64 a) ∧ W.cell? ⟨g, 1, none⟩ = some (.int .i64 b) ∧ W.cell? ⟨g, 2, none⟩ = some (.int .i64 c) ∧ W.cell? ⟨g, 3, none⟩ = some (.int .i64 d) ∧ W.cell? ⟨k, 0, none⟩ = some (.int .i64 e) ∧ W.cell? ⟨k, 1, none⟩ = some (.int .i64 f) ∧ W.cell? ⟨k, 2, none⟩ = some (.int .i64 o) ∧ W.cell? ⟨k, 3, none⟩ = some (.int .i64 r) ∧ W.cell? x1 = some (.int .i64 u1) ∧ W.cell? x2 = some (.int .i64 u2) ∧ W.cell? x3 = some (.int .i64 u3) ∧ W.cell? x4 = some (.int .i64 u4) :=
  ⟨h.p.c0, h.p.c1, h.p.c2, h.p.c3, h.q.c0, h.q.c1, h.q.c2, h.q.c3, h.e1, h.e2, h.e3, h.e4⟩
set_option maxRecDepth 100000 in
set_option maxHeartbeats 4000000 in
theorem depth_calls {A0 A1 A2 : Option Addr} {n0 c0 n1 c1 n2 c2 : Nat} {ds ps : List Int} {rows : List (List Int)} (x y : Int) (w : World) (h0 : Ints w A0 n0 c0 ds) (h1 : Ints w A1 n1 c1 ps) (h2 : Tab w A2 n2 c2 rows) (ok : TOk ds ps rows) :
    Calls Try.prog 87 #[tabA A0 n0 c0 A1 n1 c1 A2 n2 c2, .int .i64 x, .int .i64 y] w fun e w' => e = .returned (.tuple #[.int .i64 (depV ds ps rows x y).1, .int .i64 (depV ds ps rows x y).2.1, .bool (depV ds ps rows x y).2.2]) ∧ Below w.heap.size w w' := by
  obtain ⟨W0, hW0⟩ : ∃ W0, w.alloc (tabO A0 n0 c0 A1 n1 c1 A2 n2 c2) = W0 := ⟨_, rfl⟩
  have hb0 : Below w.heap.size w W0 := by rw [← hW0]; exact (Below.refl _ _).alloc (Nat.le_refl _) _
  have x0 : HBox W0 w.heap.size (.slice A0 n0 c0) (.slice A1 n1 c1) (.slice A2 n2 c2) := by rw [← hW0]; exact HBox.made _ _ _ _ _
  have F1 := Lib.hid (fun W (I : Ints W A0 n0 c0 ds) => find_calls x W I ok.da (fun z hz => by have := ok.dr z hz; omega))
  have F2 := Lib.hid (fun W (I : Ints W A1 n1 c1 ps) => find_calls y W I ok.pa (fun z hz => by have := ok.pr z hz; omega))
  have I0 := Lib.hid (h0.below hb0)
  have I1 := Lib.hid (h1.below hb0)
  have T0 := Lib.hid (h2.below hb0)
  have X0 := Lib.hid x0
  have B0 := Lib.hid hb0
  obtain ⟨V, hV⟩ : ∃ V, depV ds ps rows x y = V := ⟨_, rfl⟩
  rw [hV]
  unfold depV at hV
  have PK1 := Lib.hid (fun p (h : plcV ds x = (p, true)) => plc_ok ok.da ok.dr (by omega) h)
  have PK2 := Lib.hid (fun p (h : plcV ps y = (p, true)) => plc_ok ok.pa ok.pr (by omega) h)
  have RL := Lib.hid ok.rl
  have CL := Lib.hid ok.cl
  have L0 := Lib.hid h0.len
  have L1 := Lib.hid h1.len
  generalize plcV ds x = P at *
  generalize plcV ps y = Q at *
  obtain ⟨p, f1⟩ := P
  obtain ⟨q, f2⟩ := Q
  dsimp only at hV
  obtain ⟨k0, k1, k2, kl⟩ : W0.cell? ⟨w.heap.size, 0, none⟩ = some (.slice A0 n0 c0) ∧ W0.cell? ⟨w.heap.size, 1, none⟩ = some (.slice A1 n1 c1) ∧ W0.cell? ⟨w.heap.size, 2, none⟩ = some (.slice A2 n2 c2) ∧ w.heap.size < W0.heap.size := ⟨x0.c0, x0.c1, x0.c2, x0.lt⟩
  have HV := Lib.hid hV
  have hcap2 := h2.cap
  have hmax2 := h2.max
  clear h0 h1 h2 ok hb0 x0 hV
  cases f1
  · have hv := HV.out
    rw [if_neg (by simp)] at hv
    subst hv
    go_enter Try.func87, Try.ntmps87
    go_wp2_with fail
    refine (F1.out _ I0.out).mono ?_
    rintro e w1 ⟨rfl, b1⟩
    have ba1 : Below w1.heap.size w1 (w1.alloc (plcO p)) := (Below.refl _ _).alloc (Nat.le_refl _) _
    have bb1 := below_then b1 ba1 b1.size
    have PB1 := Lib.hid (PBox.made w1 p)
    have J1 := Lib.hid (I1.out.below bb1)
    have T1 := Lib.hid (T0.out.below bb1)
    have X1 := Lib.hid (X0.out.below bb1 kl)
    have B1 := Lib.hid (below_then B0.out bb1 B0.out.size)
    have s1 := b1.size
    obtain ⟨m0, m1, m2, ml⟩ : (w1.alloc (plcO p)).cell? ⟨w.heap.size, 0, none⟩ = some (.slice A0 n0 c0) ∧ (w1.alloc (plcO p)).cell? ⟨w.heap.size, 1, none⟩ = some (.slice A1 n1 c1) ∧ (w1.alloc (plcO p)).cell? ⟨w.heap.size, 2, none⟩ = some (.slice A2 n2 c2) ∧ w.heap.size < (w1.alloc (plcO p)).heap.size := ⟨X1.out.c0, X1.out.c1, X1.out.c2, X1.out.lt⟩
    clear b1 ba1 bb1 k0 k1 k2
    go_wp2_with fail
    refine (F2.out _ J1.out).mono ?_
    rintro e w2 ⟨rfl, b2⟩
    have B2 := Lib.hid ((below_then B1.out b2 B1.out.size).alloc (by have := B1.out.size; have := b2.size; omega) (plcO q))
    clear b2 m0 m1 m2
    go_wp2
    go_returns
    exact ⟨rfl, B2.out⟩
  cases f2
  · have hv := HV.out
    rw [if_neg (by simp)] at hv
    subst hv
    go_enter Try.func87, Try.ntmps87
    go_wp2_with fail
    refine (F1.out _ I0.out).mono ?_
    rintro e w1 ⟨rfl, b1⟩
    have ba1 : Below w1.heap.size w1 (w1.alloc (plcO p)) := (Below.refl _ _).alloc (Nat.le_refl _) _
    have bb1 := below_then b1 ba1 b1.size
    have PB1 := Lib.hid (PBox.made w1 p)
    have J1 := Lib.hid (I1.out.below bb1)
    have T1 := Lib.hid (T0.out.below bb1)
    have X1 := Lib.hid (X0.out.below bb1 kl)
    have B1 := Lib.hid (below_then B0.out bb1 B0.out.size)
    have s1 := b1.size
    obtain ⟨m0, m1, m2, ml⟩ : (w1.alloc (plcO p)).cell? ⟨w.heap.size, 0, none⟩ = some (.slice A0 n0 c0) ∧ (w1.alloc (plcO p)).cell? ⟨w.heap.size, 1, none⟩ = some (.slice A1 n1 c1) ∧ (w1.alloc (plcO p)).cell? ⟨w.heap.size, 2, none⟩ = some (.slice A2 n2 c2) ∧ w.heap.size < (w1.alloc (plcO p)).heap.size := ⟨X1.out.c0, X1.out.c1, X1.out.c2, X1.out.lt⟩
    clear b1 ba1 bb1 k0 k1 k2
    go_wp2_with fail
    refine (F2.out _ J1.out).mono ?_
    rintro e w2 ⟨rfl, b2⟩
    have B2 := Lib.hid ((below_then B1.out b2 B1.out.size).alloc (by have := B1.out.size; have := b2.size; omega) (plcO q))
    clear b2 m0 m1 m2
    go_wp2
    go_returns
    exact ⟨rfl, B2.out⟩
  obtain ⟨i1, j1, e1, e2, hi1, hj1, pk, pw⟩ := PK1.out p rfl
  obtain ⟨i2, j2, e3, e4, hi2, hj2, qk, qw⟩ := PK2.out q rfl
  have hv := HV.out
  rw [if_pos ⟨rfl, rfl⟩, e1, e2, e3, e4, Int.toNat_natCast, Int.toNat_natCast, Int.toNat_natCast, Int.toNat_natCast] at hv
  obtain ⟨plo, phi, prest, pwhole⟩ := p
  obtain ⟨qlo, qhi, qrest, qwhole⟩ := q
  dsimp only at e1 e2 e3 e4
  subst e1 e2 e3 e4
  rw [L0.out] at hi1 hj1
  rw [L1.out] at hi2 hj2
  have HV2 := Lib.hid hv
  clear hv PK1 PK2 HV
  go_enter Try.func87, Try.ntmps87
  go_wp2_with fail
  refine (F1.out _ I0.out).mono ?_
  rintro e w1 ⟨rfl, b1⟩
  have ba1 : Below w1.heap.size w1 (w1.alloc (plcO ⟨i1, j1, prest, pwhole⟩)) := (Below.refl _ _).alloc (Nat.le_refl _) _
  have bb1 := below_then b1 ba1 b1.size
  have PB1 := Lib.hid (PBox.made w1 ⟨i1, j1, prest, pwhole⟩)
  have J1 := Lib.hid (I1.out.below bb1)
  have T1 := Lib.hid (T0.out.below bb1)
  have X1 := Lib.hid (X0.out.below bb1 kl)
  have B1 := Lib.hid (below_then B0.out bb1 B0.out.size)
  have s1 := b1.size
  obtain ⟨m0, m1, m2, ml⟩ : (w1.alloc (plcO ⟨i1, j1, prest, pwhole⟩)).cell? ⟨w.heap.size, 0, none⟩ = some (.slice A0 n0 c0) ∧ (w1.alloc (plcO ⟨i1, j1, prest, pwhole⟩)).cell? ⟨w.heap.size, 1, none⟩ = some (.slice A1 n1 c1) ∧ (w1.alloc (plcO ⟨i1, j1, prest, pwhole⟩)).cell? ⟨w.heap.size, 2, none⟩ = some (.slice A2 n2 c2) ∧ w.heap.size < (w1.alloc (plcO ⟨i1, j1, prest, pwhole⟩)).heap.size := ⟨X1.out.c0, X1.out.c1, X1.out.c2, X1.out.lt⟩
  clear b1 ba1 bb1 k0 k1 k2
  go_wp2_with fail
  refine (F2.out _ J1.out).mono ?_
  rintro e w2 ⟨rfl, b2⟩
  have ba2 : Below w2.heap.size w2 (w2.alloc (plcO ⟨i2, j2, qrest, qwhole⟩)) := (Below.refl _ _).alloc (Nat.le_refl _) _
  have bb2 := below_then b2 ba2 b2.size
  have PB2 := Lib.hid (PBox.made w2 ⟨i2, j2, qrest, qwhole⟩)
  have PB1' := Lib.hid (PB1.out.below bb2 PB1.out.lt)
  have T2 := Lib.hid (T1.out.below bb2)
  have X2 := Lib.hid (X1.out.below bb2 ml)
  have B2 := Lib.hid (below_then B1.out bb2 B1.out.size)
  obtain ⟨W3, hW3⟩ : ∃ W3, w2.alloc (plcO ⟨i2, j2, qrest, qwhole⟩) = W3 := ⟨_, rfl⟩
  rw [hW3] at PB2 PB1' T2 X2 B2
  clear b2 ba2 bb2 m0 m1 m2
  have hn2 : n2 = n1 := by rw [← T2.out.len, RL.out, L1.out]
  obtain ⟨ad, B1r, d1, r1, eA, hlA, hcI, hI⟩ := T2.out.at_ (k := i2) (by omega)
  obtain ⟨ad', B2r, d2, r2, eA', -, hcJ, hJ⟩ := T2.out.at_ (k := j2) (by omega)
  obtain rfl : ad = ad' := by rw [eA] at eA'; injection eA'
  obtain ⟨lI, bI⟩ := CL.out _ (tl_mem (ts := rows) (k := i2) (by rw [RL.out, L1.out]; exact hi2))
  obtain ⟨lJ, bJ⟩ := CL.out _ (tl_mem (ts := rows) (k := j2) (by rw [RL.out, L1.out]; exact hj2))
  rw [L0.out] at lI lJ
  have nI := hI.len
  have nJ := hJ.len
  have a1 : i1 < d1 := by omega
  have a2 : j1 < d1 := by omega
  have a3 : i1 < d2 := by omega
  have a4 : j1 < d2 := by omega
  have cI := hI.cap
  have cJ := hJ.cap
  have xI := hI.max
  have xJ := hJ.max
  have eI1 := bI _ (el_mem (k := i1) (by omega))
  have eI2 := bI _ (el_mem (k := j1) (by omega))
  have eJ1 := bJ _ (el_mem (k := i1) (by omega))
  have eJ2 := bJ _ (el_mem (k := j1) (by omega))
  obtain ⟨x, rfl, hxl, hx⟩ := hI.mem (by omega)
  obtain ⟨y', rfl, hyl, hy'⟩ := hJ.mem (by omega)
  have g1 := hx i1 (by omega)
  have g2 := hx j1 (by omega)
  have g3 := hy' i1 (by omega)
  have g4 := hy' j1 (by omega)
  subst eA
  have DP0 : Hid (Dp w W3 w1.heap.size w2.heap.size i1 j1 prest pwhole i2 j2 qrest qwhole (x.add i1) (x.add j1) (y'.add i1) (y'.add j1) _ _ _ _) := Lib.hid ⟨PB1'.out, PB2.out, g1, g2, g3, g4, by rw [block_of_add]; exact hxl, by rw [block_of_add]; exact hxl, by rw [block_of_add]; exact hyl, by rw [block_of_add]; exact hyl, B2.out⟩
  obtain ⟨q0, q1, q2, q3, -⟩ := PB2.out.parts
  have x2c := X2.out.c2
  dsimp only at q0 q1
  have hi2' : ((i2 : Nat) : Int).toNat = i2 := Int.toNat_natCast _
  have hv := HV2.out
  have PK1 := Lib.hid pk
  have PK2 := Lib.hid qk
  have HIJ := Lib.hid (And.intro nI nJ)
  generalize el (tl rows i2) i1 = u1 at *
  generalize el (tl rows i2) j1 = u2 at *
  generalize el (tl rows j2) i1 = u3 at *
  generalize el (tl rows j2) j1 = u4 at *
  have mb1 := mix_bd pk (by omega) eI1.1 eI1.2 eI2.1 eI2.2
  have mb2 := mix_bd pk (by omega) eJ1.1 eJ1.2 eJ2.1 eJ2.2
  have k1 := fun W (h : Dp w W w1.heap.size w2.heap.size i1 j1 prest pwhole i2 j2 qrest qwhole (x.add i1) (x.add j1) (y'.add i1) (y'.add j1) u1 u2 u3 u4) => (mix_calls ⟨i1, j1, prest, pwhole⟩ u1 u2 2592000 4194304 W pk (by omega) (by omega) (by omega) eI1.1 eI1.2 eI2.1 eI2.2).mono fun _ _ ⟨he, hb⟩ => And.intro he (h.below hb)
  have k2 := fun W (h : Dp w W w1.heap.size w2.heap.size i1 j1 prest pwhole i2 j2 qrest qwhole (x.add i1) (x.add j1) (y'.add i1) (y'.add j1) u1 u2 u3 u4) => (mix_calls ⟨i1, j1, prest, pwhole⟩ u3 u4 2592000 4194304 W pk (by omega) (by omega) (by omega) eJ1.1 eJ1.2 eJ2.1 eJ2.2).mono fun _ _ ⟨he, hb⟩ => And.intro he (h.below hb)
  have k3 := fun W (h : Dp w W w1.heap.size w2.heap.size i1 j1 prest pwhole i2 j2 qrest qwhole (x.add i1) (x.add j1) (y'.add i1) (y'.add j1) u1 u2 u3 u4) => (mix_calls ⟨i2, j2, qrest, qwhole⟩ (mixV ⟨i1, j1, prest, pwhole⟩ u1 u2) (mixV ⟨i1, j1, prest, pwhole⟩ u3 u4) 10000 (2592000 * 4194304) W qk (by omega) (by omega) (by omega) mb1.2.2.2.2.1 mb1.2.2.2.2.2 mb2.2.2.2.2.1 mb2.2.2.2.2.2).mono fun _ _ ⟨he, hb⟩ => And.intro he (h.below hb)
  generalize mixV ⟨i1, j1, prest, pwhole⟩ u1 u2 = m1 at *
  generalize mixV ⟨i1, j1, prest, pwhole⟩ u3 u4 = m2 at *
  generalize mixV ⟨i2, j2, qrest, qwhole⟩ m1 m2 = m3 at *
  have hw1 : pwhole ≤ 2592000 := pk.w1
  have hw2 : qwhole ≤ 10000 := qk.w1
  try dsimp only at pw qw hv k1 k2 k3
  have z0 : 0 ≤ pwhole * qwhole := Int.mul_nonneg (by omega) (by omega)
  have z1 : pwhole * qwhole ≤ 25920000000 := Int.le_trans (Int.mul_le_mul_of_nonneg_right hw1 (by omega)) (Int.mul_le_mul_of_nonneg_left hw2 (by omega))
  obtain ⟨Z, hZ⟩ : ∃ Z, pwhole * qwhole = Z := ⟨_, rfl⟩
  rw [hZ] at z0 z1 hv
  subst hv
  have K1 := Lib.hid k1
  have K2 := Lib.hid k2
  have K3 := Lib.hid k3
  have hg := fun n => DP0.out.below (below_drewN (Below.refl _ _) n)
  have HG := Lib.hid hg
  clear hg
  obtain ⟨t0, t1, t2, t3, s0, s1, s2, s3, y1, y2, y3, y4⟩ := DP0.out.cells
  clear pk qk mb1 mb2 eI1 eI2 eJ1 eJ2 g1 g2 g3 g4 k1 k2 k3 hx hy' hI hJ q0 q1 q2 q3
  go_upto_region 5 with fail
  go_quiet (fail)
  go_wp2_with fail
  go_region_held3 (fun w' => w'.cell? ⟨w1.heap.size, 0, none⟩ = some (.int .i64 i1) ∧ w'.cell? ⟨w1.heap.size, 1, none⟩ = some (.int .i64 j1) ∧ w'.cell? ⟨w1.heap.size, 2, none⟩ = some (.int .i64 prest) ∧ w'.cell? ⟨w1.heap.size, 3, none⟩ = some (.int .i64 pwhole) ∧ w'.cell? ⟨w2.heap.size, 0, none⟩ = some (.int .i64 i2) ∧ w'.cell? ⟨w2.heap.size, 1, none⟩ = some (.int .i64 j2) ∧ w'.cell? ⟨w2.heap.size, 2, none⟩ = some (.int .i64 qrest) ∧ w'.cell? ⟨w2.heap.size, 3, none⟩ = some (.int .i64 qwhole) ∧ w'.cell? (x.add i1) = some (.int .i64 u1) ∧ w'.cell? (x.add j1) = some (.int .i64 u2) ∧ w'.cell? (y'.add i1) = some (.int .i64 u3) ∧ w'.cell? (y'.add j1) = some (.int .i64 u4)) (first | go_keep | exact Dp.cells (by assumption)) (first | (go_at_call 93; (with_reducible refine (K1.out _ (by first | assumption | exact HG.out _)).mono ?_); rintro e vv ⟨rfl, hgd⟩) | (go_at_call 93; (with_reducible refine (K2.out _ (by first | assumption | exact HG.out _)).mono ?_); rintro e vv ⟨rfl, hgd⟩) | (go_at_call 93; (with_reducible refine (K3.out _ (by first | assumption | exact HG.out _)).mono ?_); rintro e vv ⟨rfl, hgd⟩))
  go_wp2_with fail
  go_returns
  refine ⟨?_, Dp.bel (by assumption)⟩
  have hwr : IntKind.i64.wrap Z = Z := by rw [IntKind.wrap_i64]; omega
  rw [hwr]
  rfl
end Go.Proofs.Ytfhikdgdckfalaa
