/- A record in a block of three cells: it is written, it is handed back. -/
import Derived.Test.YtfhikdgdckfalaaMB02
import Derived.Test.YtfhikdgdckfalaaMB00
import Derived.StillTailTactics
import Derived.BigQuiet

namespace Go.Proofs.Ytfhikdgdckfalaa
open Go.RowKit
set_option linter.unusedVariables false

def zeroS : SerD := ⟨0, 0, []⟩
/-- What a function hands back that returns a record and an error number. -/
def RetSer (s : SerD × Int) (w : World) (e : Ending) (w' : World) : Prop :=
  ∃ A n c, e = .returned (.tuple #[serA s.1.f s.1.st A n c, .int .i64 s.2]) ∧ Ints w' A n c s.1.ds ∧ Below w.heap.size w w' ∧ ∀ ad, A = some ad → w.heap.size ≤ ad.block

/-- Block g holds an empty record that may be written. -/
structure ZBox (w : World) (g : Nat) : Prop where
  b : SBox w g 0 0 none 0 0
  f : ∀ i, w.frozen? ⟨g, i, none⟩ = false
theorem ZBox.far {w : World} {g : Nat} (h : ZBox w g) {p : Addr} (hp : g ≠ p.block) (u : Value) : ZBox (w.setCell p u) g := by
  have ne : ∀ i, (⟨g, i, none⟩ : Addr) ≠ p := fun i e => hp (by rw [← e])
  exact ⟨⟨by rw [World.cell?_setCell_other w _ _ _ (fun e => ne 0 e.symm)]; exact h.b.c0, by rw [World.cell?_setCell_other w _ _ _ (fun e => ne 1 e.symm)]; exact h.b.c1, by rw [World.cell?_setCell_other w _ _ _ (fun e => ne 2 e.symm)]; exact h.b.c2, by simp [World.setCell]; exact h.b.lt⟩,
    fun i => by rw [World.frozen?_setCell]; exact h.f i⟩
theorem stored3 {w : World} {g : Nat} {a b c : Value} (x y z : Value) (h0 : w.cell? ⟨g, 0, none⟩ = some a) (h1 : w.cell? ⟨g, 1, none⟩ = some b) (h2 : w.cell? ⟨g, 2, none⟩ = some c) :
    (((w.setCell ⟨g, 0, none⟩ x).setCell ⟨g, 1, none⟩ y).setCell ⟨g, 2, none⟩ z).cell? ⟨g, 0, none⟩ = some x ∧
    (((w.setCell ⟨g, 0, none⟩ x).setCell ⟨g, 1, none⟩ y).setCell ⟨g, 2, none⟩ z).cell? ⟨g, 1, none⟩ = some y ∧
    (((w.setCell ⟨g, 0, none⟩ x).setCell ⟨g, 1, none⟩ y).setCell ⟨g, 2, none⟩ z).cell? ⟨g, 2, none⟩ = some z := by
  have k1 : (w.setCell ⟨g, 0, none⟩ x).cell? ⟨g, 1, none⟩ = some b := by rw [World.cell?_setCell_other w _ _ _ (by simp)]; exact h1
  have k2 : ((w.setCell ⟨g, 0, none⟩ x).setCell ⟨g, 1, none⟩ y).cell? ⟨g, 2, none⟩ = some c := by
    rw [World.cell?_setCell_other _ _ _ _ (by simp), World.cell?_setCell_other w _ _ _ (by simp)]; exact h2
  refine ⟨?_, ?_, World.cell?_setCell_same _ _ _ k2⟩
  · rw [World.cell?_setCell_other _ _ _ _ (by simp), World.cell?_setCell_other _ _ _ _ (by simp)]; exact World.cell?_setCell_same w _ _ h0
  · rw [World.cell?_setCell_other _ _ _ _ (by simp)]; exact World.cell?_setCell_same _ _ _ k1
theorem ZBox.below {w w' : World} {g : Nat} (h : ZBox w g) {B : Nat} (hb : Below B w w') (hg : g < B) : ZBox w' g :=
  ⟨h.b.below hb hg, fun i => (hb.frozen (p := ⟨g, i, none⟩) hg).trans (h.f i)⟩
theorem ZBox.cells {w : World} {g : Nat} (h : ZBox w g) : w.cell? ⟨g, 0, none⟩ = some (.int .i64 0) ∧ w.cell? ⟨g, 1, none⟩ = some (.int .i64 0) ∧ w.cell? ⟨g, 2, none⟩ = some (.slice none 0 0) ∧ w.frozen? ⟨g, 0, none⟩ = false ∧ w.frozen? ⟨g, 1, none⟩ = false ∧ w.frozen? ⟨g, 2, none⟩ = false ∧ g < w.heap.size := ⟨h.b.c0, h.b.c1, h.b.c2, h.f 0, h.f 1, h.f 2, h.b.lt⟩

/-- Three cells of the block g are written. -/
structure Put3 (w W : World) (g : Nat) (x y : Int) (A : Option Addr) (n c : Nat) : Prop where
  b : SBox W g x y A n c
  f : ∀ i, W.frozen? ⟨g, i, none⟩ = false
  oth : ∀ h, h ≠ g → ZBox w h → ZBox W h
  bel : ∀ B w0, B ≤ g → Below B w0 w → Below B w0 W
  int : ∀ A' n' c' zs, Ints w A' n' c' zs → (∀ ad, A' = some ad → ad.block ≠ g) → Ints W A' n' c' zs
theorem put3 {w : World} {g : Nat} {u v : Int} {A0 : Option Addr} {n0 c0 : Nat} (b : SBox w g u v A0 n0 c0) (fz : ∀ i, w.frozen? ⟨g, i, none⟩ = false) (x y : Int) (A : Option Addr) (n c : Nat) : Put3 w (((w.setCell ⟨g, 0, none⟩ (.int .i64 x)).setCell ⟨g, 1, none⟩ (.int .i64 y)).setCell ⟨g, 2, none⟩ (.slice A n c)) g x y A n c := by
  obtain ⟨q0, q1, q2⟩ := stored3 (.int .i64 x) (.int .i64 y) (.slice A n c) b.c0 b.c1 b.c2
  refine ⟨⟨q0, q1, q2, by simp [World.setCell]; exact b.lt⟩, fun i => by rw [World.frozen?_setCell, World.frozen?_setCell, World.frozen?_setCell]; exact fz i, fun h hh z => ?_, fun B w0 hB hb => ?_, fun A' n' c' zs hi ha => ?_⟩
  · exact ((z.far (p := ⟨g, 0, none⟩) hh _).far (p := ⟨g, 1, none⟩) hh _).far (p := ⟨g, 2, none⟩) hh _
  · exact ((hb.setCell (p := ⟨g, 0, none⟩) hB _).setCell (p := ⟨g, 1, none⟩) hB _).setCell (p := ⟨g, 2, none⟩) hB _
  · exact ((hi.far (p := ⟨g, 0, none⟩) ha _).far (p := ⟨g, 1, none⟩) ha _).far (p := ⟨g, 2, none⟩) ha _
/-- An empty record is handed back. -/
theorem fin0 {w W : World} (z : ZBox W w.heap.size) (hB : Below w.heap.size w W) (x : Int) : Hid (Put3 W (((W.setCell ⟨w.heap.size, 0, none⟩ (.int .i64 0)).setCell ⟨w.heap.size, 1, none⟩ (.int .i64 0)).setCell ⟨w.heap.size, 2, none⟩ (.slice none 0 0)) w.heap.size 0 0 none 0 0 ∧ RetSer (zeroS, x) w (.returned (.tuple #[serA 0 0 none 0 0, .int .i64 x])) (((W.setCell ⟨w.heap.size, 0, none⟩ (.int .i64 0)).setCell ⟨w.heap.size, 1, none⟩ (.int .i64 0)).setCell ⟨w.heap.size, 2, none⟩ (.slice none 0 0))) := Lib.hid (by
  have P := put3 z.b z.f 0 0 none 0 0
  exact ⟨P, none, 0, 0, rfl, Ints.nil _, P.bel _ _ (Nat.le_refl _) hB, fun ad e => by cases e⟩)

theorem SBox.cells {w : World} {p : Nat} {f st : Int} {A : Option Addr} {n c : Nat} (h : SBox w p f st A n c) : w.cell? ⟨p, 0, none⟩ = some (.int .i64 f) ∧ w.cell? ⟨p, 1, none⟩ = some (.int .i64 st) ∧ w.cell? ⟨p, 2, none⟩ = some (.slice A n c) ∧ p < w.heap.size := ⟨h.c0, h.c1, h.c2, h.lt⟩
theorem ZBox.made (w : World) : ZBox (w.alloc (serO 0 0 none 0 0)) w.heap.size := ⟨SBox.made _ 0 0 none 0 0, fun i => World.frozen?_alloc_new _ _ _ _⟩
/-- A record is handed back. -/
theorem finS {w W : World} (z : ZBox W w.heap.size) (hB : Below w.heap.size w W) (s : SerD) (x : Int) {A : Option Addr} {n c : Nat} (hi : Ints W A n c s.ds) (hA : ∀ ad, A = some ad → w.heap.size < ad.block) : Hid (Put3 W (((W.setCell ⟨w.heap.size, 0, none⟩ (.int .i64 s.f)).setCell ⟨w.heap.size, 1, none⟩ (.int .i64 s.st)).setCell ⟨w.heap.size, 2, none⟩ (.slice A n c)) w.heap.size s.f s.st A n c ∧ RetSer (s, x) w (.returned (.tuple #[serA s.f s.st A n c, .int .i64 x])) (((W.setCell ⟨w.heap.size, 0, none⟩ (.int .i64 s.f)).setCell ⟨w.heap.size, 1, none⟩ (.int .i64 s.st)).setCell ⟨w.heap.size, 2, none⟩ (.slice A n c))) := Lib.hid (by
  have P := put3 z.b z.f s.f s.st A n c
  exact ⟨P, A, n, c, rfl, P.int _ _ _ _ hi (fun ad e => by have := hA ad e; omega), P.bel _ _ (Nat.le_refl _) hB, fun ad e => by have := hA ad e; omega⟩)
end Go.Proofs.Ytfhikdgdckfalaa

/- Where a number lies in an ascending list: find of the program; mix. -/
namespace Go.Proofs.Ytfhikdgdckfalaa
open Go.RowKit
set_option linter.unusedVariables false

/-- A place: between which elements, the rest, the whole. -/
structure Plc where
  lo : Int
  hi : Int
  rest : Int
  whole : Int
abbrev plcA (p : Plc) : Value := .agg #[.int .i64 p.lo, .int .i64 p.hi, .int .i64 p.rest, .int .i64 p.whole]
abbrev plcO (p : Plc) : Obj := .cells #[.int .i64 p.lo, .int .i64 p.hi, .int .i64 p.rest, .int .i64 p.whole] 113
def zeroP : Plc := ⟨0, 0, 0, 0⟩
/-- Block g holds a place. -/
structure PBox (w : World) (g : Nat) (p : Plc) : Prop where
  c0 : w.cell? ⟨g, 0, none⟩ = some (.int .i64 p.lo)
  c1 : w.cell? ⟨g, 1, none⟩ = some (.int .i64 p.hi)
  c2 : w.cell? ⟨g, 2, none⟩ = some (.int .i64 p.rest)
  c3 : w.cell? ⟨g, 3, none⟩ = some (.int .i64 p.whole)
  f : ∀ i, w.frozen? ⟨g, i, none⟩ = false
  lt : g < w.heap.size
theorem PBox.made (w : World) (p : Plc) : PBox (w.alloc (plcO p)) w.heap.size p :=
  ⟨by rw [World.cell?_alloc_new]; rfl, by rw [World.cell?_alloc_new]; rfl, by rw [World.cell?_alloc_new]; rfl, by rw [World.cell?_alloc_new]; rfl, fun i => World.frozen?_alloc_new _ _ _ _, by simp⟩
theorem PBox.below {w w' : World} {g B : Nat} {p : Plc} (h : PBox w g p) (hb : Below B w w') (hg : g < B) : PBox w' g p :=
  ⟨(hb.cell (p := ⟨g, 0, none⟩) hg).trans h.c0, (hb.cell (p := ⟨g, 1, none⟩) hg).trans h.c1, (hb.cell (p := ⟨g, 2, none⟩) hg).trans h.c2, (hb.cell (p := ⟨g, 3, none⟩) hg).trans h.c3, fun i => (hb.frozen (p := ⟨g, i, none⟩) hg).trans (h.f i), Nat.lt_of_lt_of_le h.lt hb.size⟩
theorem PBox.parts {w : World} {g : Nat} {p : Plc} (h : PBox w g p) : w.cell? ⟨g, 0, none⟩ = some (.int .i64 p.lo) ∧ w.cell? ⟨g, 1, none⟩ = some (.int .i64 p.hi) ∧ w.cell? ⟨g, 2, none⟩ = some (.int .i64 p.rest) ∧ w.cell? ⟨g, 3, none⟩ = some (.int .i64 p.whole) ∧ w.frozen? ⟨g, 0, none⟩ = false ∧ w.frozen? ⟨g, 1, none⟩ = false ∧ w.frozen? ⟨g, 2, none⟩ = false ∧ w.frozen? ⟨g, 3, none⟩ = false ∧ g < w.heap.size :=
  ⟨h.c0, h.c1, h.c2, h.c3, h.f 0, h.f 1, h.f 2, h.f 3, h.lt⟩
abbrev put4 (w : World) (g : Nat) (p : Plc) : World := (((w.setCell ⟨g, 0, none⟩ (.int .i64 p.lo)).setCell ⟨g, 1, none⟩ (.int .i64 p.hi)).setCell ⟨g, 2, none⟩ (.int .i64 p.rest)).setCell ⟨g, 3, none⟩ (.int .i64 p.whole)
theorem PBox.put {w : World} {g : Nat} {q : Plc} (h : PBox w g q) (p : Plc) : PBox (put4 w g p) g p := by
  have o : ∀ (W : World) (i j : Nat) (u : Value), i ≠ j → (W.setCell ⟨g, i, none⟩ u).cell? ⟨g, j, none⟩ = W.cell? ⟨g, j, none⟩ := fun W i j u hij => World.cell?_setCell_other _ _ _ _ (by intro e; injection e with e1 e2; exact hij e2)
  refine ⟨?_, ?_, ?_, ?_, fun i => ?_, ?_⟩
  · rw [put4, o _ 3 0 _ (by decide), o _ 2 0 _ (by decide), o _ 1 0 _ (by decide)]; exact World.cell?_setCell_same _ _ _ h.c0
  · rw [put4, o _ 3 1 _ (by decide), o _ 2 1 _ (by decide)]; exact World.cell?_setCell_same _ _ _ (by rw [o _ 0 1 _ (by decide)]; exact h.c1)
  · rw [put4, o _ 3 2 _ (by decide)]; exact World.cell?_setCell_same _ _ _ (by rw [o _ 1 2 _ (by decide), o _ 0 2 _ (by decide)]; exact h.c2)
  · rw [put4]; exact World.cell?_setCell_same _ _ _ (by rw [o _ 2 3 _ (by decide), o _ 1 3 _ (by decide), o _ 0 3 _ (by decide)]; exact h.c3)
  · rw [put4, World.frozen?_setCell, World.frozen?_setCell, World.frozen?_setCell, World.frozen?_setCell]; exact h.f i
  · simp [put4, World.setCell]; exact h.lt
theorem put4_below {w0 w : World} {B g : Nat} (hb : Below B w0 w) (hg : B ≤ g) (p : Plc) : Below B w0 (put4 w g p) :=
  (((hb.setCell (p := ⟨g, 0, none⟩) hg _).setCell (p := ⟨g, 1, none⟩) hg _).setCell (p := ⟨g, 2, none⟩) hg _).setCell (p := ⟨g, 3, none⟩) hg _
def plcV (l : List Int) (x : Int) : Plc × Bool :=
  if inL x l = true then (⟨lbN x l, lbN x l, 0, 1⟩, true)
  else if lbN x l = 0 ∨ lbN x l = l.length then (zeroP, false)
  else (⟨(lbN x l : Int) - 1, lbN x l, x - el l (lbN x l - 1), el l (lbN x l) - el l (lbN x l - 1)⟩, true)
def RetP (V : Plc × Bool) (w : World) (e : Ending) (w' : World) : Prop := e = .returned (.tuple #[plcA V.1, .bool V.2]) ∧ Below w.heap.size w w'

set_option maxRecDepth 100000 in
set_option maxHeartbeats 2000000 in
theorem find_calls {A : Option Addr} {n c : Nat} {l : List Int} (x : Int) (w : World) (h : Ints w A n c l) (ha : Asc l) (hr : ∀ z ∈ l, 0 ≤ z ∧ z ≤ 10000000) :
    Calls Try.prog 92 #[.slice A n c, .int .i64 x] w (RetP (plcV l x) w) := by
  have hcap := h.cap
  have hmax := h.max
  have hlen := h.len
  have hle := lb_le x l
  obtain ⟨W0, hW0⟩ : ∃ W0, w.alloc (plcO zeroP) = W0 := ⟨_, rfl⟩
  have hb0 : Below w.heap.size w W0 := by rw [← hW0]; exact (Below.refl _ _).alloc (Nat.le_refl _) _
  have p0 : PBox W0 w.heap.size zeroP := by rw [← hW0]; exact PBox.made _ _
  have h0 := h.below hb0
  have BS := Lib.hid (binary_calls x W0 h0 ha)
  have B0 := Lib.hid hb0
  have P0 := Lib.hid p0
  have H0 := Lib.hid h0
  have er := fun k (hk : k < l.length) => hr _ (el_mem hk)
  have ER := Lib.hid er
  have HL := Lib.hid hlen
  obtain ⟨V, hV⟩ : ∃ V, plcV l x = V := ⟨_, rfl⟩
  rw [hV]
  unfold plcV at hV
  have HXB : Hid (¬ (lbN x l = 0 ∨ lbN x l = n) → -1000000000000 ≤ x ∧ x ≤ 1000000000000) := Lib.hid (fun hh => by
    rw [← hlen] at hh
    have a := lb_lt (x := x) (l := l) (k := lbN x l - 1) (by omega)
    have b := lb_at (x := x) (l := l) (by omega)
    have c := hr _ (el_mem (show lbN x l - 1 < l.length by omega))
    have d := hr _ (el_mem (show lbN x l < l.length by omega))
    omega)
  rw [hlen] at hle hV
  generalize inL x l = f at *
  generalize lbN x l = i at *
  obtain ⟨z0, z1, z2, z3, f0, f1, f2, f3, zl⟩ := p0.parts
  unfold zeroP at z0 z1 z2 z3 hW0
  dsimp only at z0 z1 z2 z3 hW0
  clear h h0 hb0 p0 ha hr er hlen
  cases f
  · rw [if_neg (by simp)] at hV
    by_cases hout : i = 0 ∨ i = n
    · rw [if_pos hout] at hV
      subst hV
      have Q := Lib.hid (P0.out.put zeroP)
      have QB := Lib.hid (put4_below B0.out (Nat.le_refl _) zeroP)
      unfold zeroP put4 at Q QB
      dsimp only at Q QB
      have hc2 : ((i : Int) == 0) = true ∨ (((i : Int) == 0) = false ∧ ((i : Int) == (n : Int)) = true) := by
        by_cases h0 : i = 0
        · exact .inl (by simp [h0])
        · exact .inr ⟨by simp [h0], by simp; omega⟩
      clear hout
      rcases hc2 with h1 | ⟨h1, h2⟩ <;> (
        go_enter Try.func92, Try.ntmps92
        go_wp2_with fail
        refine (BS.out).mono ?_
        rintro e w1 ⟨rfl, rfl⟩
        go_wp2
        have q := Q.out
        have qb := QB.out
        generalize (((W0.setCell ⟨w.heap.size, 0, none⟩ (.int .i64 0)).setCell ⟨w.heap.size, 1, none⟩ (.int .i64 0)).setCell ⟨w.heap.size, 2, none⟩ (.int .i64 0)).setCell ⟨w.heap.size, 3, none⟩ (.int .i64 0) = W3 at *
        obtain ⟨q0, q1, q2, q3, -, -⟩ := q
        exact bodyPost_ret (v := .tuple #[plcA zeroP, .bool false]) (by simp [results, Try.results92, go_sem, q0, q1, q2, q3, zeroP]) rfl ⟨rfl, qb⟩)
    · rw [if_neg hout] at hV
      obtain ⟨hx0, hx1⟩ := HXB.out hout
      obtain ⟨j, hj⟩ : ∃ j, i = j + 1 := ⟨i - 1, by omega⟩
      have hjn : j + 1 < n := by omega
      obtain ⟨ad, rfl, -, c1⟩ := H0.out.at_ (show j + 1 < n by omega)
      obtain ⟨ad', e', -, c0⟩ := H0.out.at_ (show j < n by omega)
      injection e' with e'
      subst e'
      have r0 := ER.out j (by rw [HL.out]; omega)
      have r1 := ER.out (j + 1) (by rw [HL.out]; omega)
      rw [← hj] at c1 r1
      rw [show i - 1 = j by omega] at hV
      generalize el l j = y0 at *
      generalize el l i = y1 at *
      obtain ⟨R, hR⟩ : ∃ R, x - y0 = R := ⟨_, rfl⟩
      obtain ⟨D, hD⟩ : ∃ D, y1 - y0 = D := ⟨_, rfl⟩
      rw [hR, hD, show (i : Int) - 1 = (j : Int) by omega] at hV
      have w1 : IntKind.i64.wrap ((i : Int) - 1) = (j : Int) := by rw [show (i : Int) - 1 = (j : Int) by omega]; exact IntWalk.i64_in _ (by omega)
      have w2 : IntKind.i64.wrap (x - y0) = R := by rw [hR]; exact IntWalk.i64_in _ (by omega)
      have w3 : IntKind.i64.wrap (y1 - y0) = D := by rw [hD]; exact IntWalk.i64_in _ (by omega)
      have g1 : ((i : Int) == 0) = false := by simp; omega
      have g2 : ((i : Int) == (n : Int)) = false := by simp; omega
      have l0 : (j : Int) < (n : Int) := by omega
      have l1 : (i : Int) < (n : Int) := by omega
      have l2 : (0 : Int) ≤ (j : Int) := by omega
      subst hV
      have P0' : PBox W0.drew w.heap.size zeroP := ⟨P0.out.c0, P0.out.c1, P0.out.c2, P0.out.c3, P0.out.f, P0.out.lt⟩
      have Q := Lib.hid (P0'.put ⟨j, i, R, D⟩)
      have QB := Lib.hid (put4_below (below_drewN B0.out 1) (Nat.le_refl _) ⟨j, i, R, D⟩)
      obtain ⟨y0', y1', y2', y3', g0', g1', g2', g3', -⟩ := P0'.parts
      unfold zeroP at y0' y1' y2' y3'
      unfold put4 at Q QB
      dsimp only at Q QB y0' y1' y2' y3'
      have QB' : Hid (Below w.heap.size w ((((W0.drew.setCell ⟨w.heap.size, 0, none⟩ (.int .i64 j)).setCell ⟨w.heap.size, 1, none⟩ (.int .i64 i)).setCell ⟨w.heap.size, 2, none⟩ (.int .i64 R)).setCell ⟨w.heap.size, 3, none⟩ (.int .i64 D))) := QB
      clear hj hR hD hout r0 r1 P0' QB hjn
      go_enter Try.func92, Try.ntmps92
      go_wp2_with fail
      refine (BS.out).mono ?_
      rintro e w1 ⟨rfl, rfl⟩
      go_wp2
      refine wp_region_still_tail 21 (by kernel_rfl) (by kernel_rfl) ?_
      simp only [List.take_succ_cons, List.take_zero, List.drop_succ_cons, List.drop_zero]
      repeat still_step
      refine wpStill_nil ?_
      change wpList _ _ _ _ _ W0.drew
      clear w1 w2 w3
      generalize W0.drew = WD at *
      go_wp2
      have q := Q.out
      have qb := QB'.out
      generalize (((WD.setCell ⟨w.heap.size, 0, none⟩ (.int .i64 j)).setCell ⟨w.heap.size, 1, none⟩ (.int .i64 i)).setCell ⟨w.heap.size, 2, none⟩ (.int .i64 R)).setCell ⟨w.heap.size, 3, none⟩ (.int .i64 D) = W3 at *
      obtain ⟨q0, q1, q2, q3, -, -⟩ := q
      exact bodyPost_ret (v := .tuple #[plcA ⟨j, i, R, D⟩, .bool true]) (by simp [results, Try.results92, go_sem, q0, q1, q2, q3]) rfl ⟨rfl, qb⟩
  · rw [if_pos rfl] at hV
    subst hV
    have Q := Lib.hid (P0.out.put ⟨i, i, 0, 1⟩)
    have QB := Lib.hid (put4_below B0.out (Nat.le_refl _) ⟨i, i, 0, 1⟩)
    unfold put4 at Q QB
    dsimp only at Q QB
    go_enter Try.func92, Try.ntmps92
    go_wp2_with fail
    refine (BS.out).mono ?_
    rintro e w1 ⟨rfl, rfl⟩
    go_wp2
    have q := Q.out
    have qb := QB.out
    generalize (((W0.setCell ⟨w.heap.size, 0, none⟩ (.int .i64 i)).setCell ⟨w.heap.size, 1, none⟩ (.int .i64 i)).setCell ⟨w.heap.size, 2, none⟩ (.int .i64 0)).setCell ⟨w.heap.size, 3, none⟩ (.int .i64 1) = W3 at *
    obtain ⟨q0, q1, q2, q3, -, -⟩ := q
    exact bodyPost_ret (v := .tuple #[plcA ⟨i, i, 0, 1⟩, .bool true]) (by simp [results, Try.results92, go_sem, q0, q1, q2, q3]) rfl ⟨rfl, qb⟩
end Go.Proofs.Ytfhikdgdckfalaa

/- mix: the value between two numbers, times the whole. -/
namespace Go.Proofs.Ytfhikdgdckfalaa
open Go.RowKit
set_option linter.unusedVariables false

def mixV (p : Plc) (a b : Int) : Int := (p.whole - p.rest) * a + p.rest * b
/-- A place within its whole. -/
structure POk (p : Plc) (m : Int) : Prop where
  r0 : 0 ≤ p.rest
  r1 : p.rest ≤ p.whole
  w1 : p.whole ≤ m
theorem mix_bd {p : Plc} {m a b M : Int} (h : POk p m) (hm : 0 ≤ m) (a0 : 0 ≤ a) (a1 : a ≤ M) (b0 : 0 ≤ b) (b1 : b ≤ M) : 0 ≤ (p.whole - p.rest) * a ∧ (p.whole - p.rest) * a ≤ m * M ∧ 0 ≤ p.rest * b ∧ p.rest * b ≤ m * M ∧ 0 ≤ mixV p a b ∧ mixV p a b ≤ m * M := by
  have h0 := h.r0
  have h1 := h.r1
  have h2 := h.w1
  have hM : 0 ≤ M := by omega
  have e1 : 0 ≤ (p.whole - p.rest) * a := Int.mul_nonneg (by omega) a0
  have e2 : (p.whole - p.rest) * a ≤ (p.whole - p.rest) * M := Int.mul_le_mul_of_nonneg_left a1 (by omega)
  have e3 : 0 ≤ p.rest * b := Int.mul_nonneg h0 b0
  have e4 : p.rest * b ≤ p.rest * M := Int.mul_le_mul_of_nonneg_left b1 h0
  have e5 : (p.whole - p.rest) * M + p.rest * M = p.whole * M := by rw [← Int.add_mul]; congr 1; omega
  have e6 : p.whole * M ≤ m * M := Int.mul_le_mul_of_nonneg_right h2 hM
  have e7 : 0 ≤ (p.whole - p.rest) * M := Int.mul_nonneg (by omega) hM
  have e8 : 0 ≤ p.rest * M := Int.mul_nonneg h0 hM
  unfold mixV
  refine ⟨e1, ?_, e3, ?_, ?_, ?_⟩ <;> omega
set_option maxHeartbeats 1000000 in
theorem mix_calls (p : Plc) (a b m M : Int) (w : World) (h : POk p m) (hm : 0 ≤ m) (hm1 : m ≤ 10000000) (hM : m * M ≤ 1152921504606846976) (a0 : 0 ≤ a) (a1 : a ≤ M) (b0 : 0 ≤ b) (b1 : b ≤ M) :
    Calls Try.prog 93 #[plcA p, .int .i64 a, .int .i64 b] w fun e w' => e = .returned (.int .i64 (mixV p a b)) ∧ Below w.heap.size w w' := by
  obtain ⟨x0, x1, y0, y1, s0, s1⟩ := mix_bd h hm a0 a1 b0 b1
  have h0 := h.r0
  have h1 := h.r1
  have h2 := h.w1
  obtain ⟨lo, hi, rest, whole⟩ := p
  unfold mixV at *
  dsimp only at *
  obtain ⟨D, hD⟩ : ∃ D, whole - rest = D := ⟨_, rfl⟩
  rw [hD] at x0 x1 s0 s1 ⊢
  obtain ⟨X, hX⟩ : ∃ X, D * a = X := ⟨_, rfl⟩
  obtain ⟨Y, hY⟩ : ∃ Y, rest * b = Y := ⟨_, rfl⟩
  rw [hX] at x0 x1 s0 s1 ⊢
  rw [hY] at y0 y1 s0 s1 ⊢
  have hB : Below w.heap.size w (w.alloc (plcO ⟨lo, hi, rest, whole⟩)) := (Below.refl _ _).alloc (Nat.le_refl _) _
  have HB := Lib.hid hB
  have z1 : X ≤ 1152921504606846976 := by omega
  have z2 : Y ≤ 1152921504606846976 := by omega
  have z3 : X + Y ≤ 1152921504606846976 := by omega
  have z4 : 0 ≤ D := by omega
  have z5 : D ≤ 10000000 := by omega
  clear hB h x1 y1 s1 hM
  go_enter Try.func93, Try.ntmps93
  go_wp2
  go_ret
  exact ⟨rfl, HB.out⟩
end Go.Proofs.Ytfhikdgdckfalaa
