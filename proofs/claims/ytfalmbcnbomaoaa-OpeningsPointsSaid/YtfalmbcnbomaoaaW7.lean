/- the law OpeningsLinks returns true -/
import Derived.Test.YtfalmbcnbomaoaaW6
import Derived.Test.YtfalmbcnbomaoaaArgs
namespace Go.Proofs.Ytfalmbcnbomaoaa
open Go.Proofs.Ytfalmbcnbomaoaa.DivLaw Go.Proofs.Ytfalmbcnbomaoaa.Open Go.RowKit
set_option linter.unusedVariables false

/-- Block g holds a link. -/
structure AtL (w : World) (g : Nat) (n0 n1 n2 sc : ByteArray) (kd ln up dn wd ht : Int) (ca : Option Addr) (cn cc : Nat) : Prop where
  c0 : w.cell? ⟨g, 0, none⟩ = some (.string n0)
  c1 : w.cell? ⟨g, 1, none⟩ = some (.string n1)
  c2 : w.cell? ⟨g, 2, none⟩ = some (.string n2)
  c3 : w.cell? ⟨g, 3, none⟩ = some (.int .i64 kd)
  c4 : w.cell? ⟨g, 4, none⟩ = some (.int .i64 ln)
  c5 : w.cell? ⟨g, 5, none⟩ = some (.int .i64 up)
  c6 : w.cell? ⟨g, 6, none⟩ = some (.int .i64 dn)
  c7 : w.cell? ⟨g, 7, none⟩ = some (.string sc)
  c8 : w.cell? ⟨g, 8, none⟩ = some (.int .i64 wd)
  c9 : w.cell? ⟨g, 9, none⟩ = some (.int .i64 ht)
  c10 : w.cell? ⟨g, 10, none⟩ = some (.slice ca cn cc)
  lt : g < w.heap.size
theorem AtL.below {W w1 : World} {g : Nat} {n0 n1 n2 sc : ByteArray} {kd ln up dn wd ht : Int} {ca : Option Addr} {cn cc : Nat} (h : AtL W g n0 n1 n2 sc kd ln up dn wd ht ca cn cc) (hb : Below W.heap.size W w1) : AtL w1 g n0 n1 n2 sc kd ln up dn wd ht ca cn cc :=
  ⟨(hb.cell (p := ⟨g, 0, none⟩) h.lt).trans h.c0, (hb.cell (p := ⟨g, 1, none⟩) h.lt).trans h.c1, (hb.cell (p := ⟨g, 2, none⟩) h.lt).trans h.c2, (hb.cell (p := ⟨g, 3, none⟩) h.lt).trans h.c3, (hb.cell (p := ⟨g, 4, none⟩) h.lt).trans h.c4, (hb.cell (p := ⟨g, 5, none⟩) h.lt).trans h.c5, (hb.cell (p := ⟨g, 6, none⟩) h.lt).trans h.c6, (hb.cell (p := ⟨g, 7, none⟩) h.lt).trans h.c7, (hb.cell (p := ⟨g, 8, none⟩) h.lt).trans h.c8, (hb.cell (p := ⟨g, 9, none⟩) h.lt).trans h.c9, (hb.cell (p := ⟨g, 10, none⟩) h.lt).trans h.c10, Nat.lt_of_lt_of_le h.lt hb.size⟩
theorem AtL.new_ (n0 n1 n2 sc : ByteArray) (kd ln up dn wd ht : Int) (ca : Option Addr) (cn cc : Nat) (w : World) : AtL (w.alloc (.cells #[.string n0, .string n1, .string n2, .int .i64 kd, .int .i64 ln, .int .i64 up, .int .i64 dn, .string sc, .int .i64 wd, .int .i64 ht, .slice ca cn cc] 32)) w.heap.size n0 n1 n2 sc kd ln up dn wd ht ca cn cc :=
  ⟨by rw [World.cell?_alloc_new]; rfl, by rw [World.cell?_alloc_new]; rfl, by rw [World.cell?_alloc_new]; rfl, by rw [World.cell?_alloc_new]; rfl, by rw [World.cell?_alloc_new]; rfl, by rw [World.cell?_alloc_new]; rfl, by rw [World.cell?_alloc_new]; rfl, by rw [World.cell?_alloc_new]; rfl, by rw [World.cell?_alloc_new]; rfl, by rw [World.cell?_alloc_new]; rfl, by rw [World.cell?_alloc_new]; rfl, by simp⟩
theorem AtL.alloc {W : World} {g : Nat} {n0 n1 n2 sc : ByteArray} {kd ln up dn wd ht : Int} {ca : Option Addr} {cn cc : Nat} (h : AtL W g n0 n1 n2 sc kd ln up dn wd ht ca cn cc) (o : Obj) : AtL (W.alloc o) g n0 n1 n2 sc kd ln up dn wd ht ca cn cc := h.below ((Below.refl _ _).alloc (Nat.le_refl _) o)
set_option maxHeartbeats 4000000 in
theorem Links_calls (n0 n1 n2 sc : ByteArray) (kd ln up dn wd ht : Int) (ca : Option Addr) (cn cc : Nat) (s a b : Int) (w : World) : Calls Try.prog 5 #[.agg #[.string n0, .string n1, .string n2, .int .i64 kd, .int .i64 ln, .int .i64 up, .int .i64 dn, .string sc, .int .i64 wd, .int .i64 ht, .slice ca cn cc], .int .i64 s, .int .i64 a, .int .i64 b] w fun e w' => e = .returned (.bool true) ∧ Below w.heap.size w w' := by
  have c1 := fun W => Gate_calls n0 n1 n2 sc kd ln up dn wd ht ca cn cc s a b W
  have c2 := fun W => Gate_ref n0 n1 n2 sc kd ln up dn wd ht ca cn cc s a b W
  have c3 := fun W => Over_calls n0 n1 n2 sc kd ln up dn wd ht ca cn cc a b W
  have c4 := fun W => Over_ref n0 n1 n2 sc kd ln up dn wd ht ca cn cc a b W
  generalize GateV kd up wd ht s a b = x at *
  generalize OverV kd up wd a b = y at *
  obtain ⟨x1, x2⟩ := x
  obtain ⟨y1, y2⟩ := y
  have C1 := Lib.hid c1
  have C2 := Lib.hid c2
  have C3 := Lib.hid c3
  have C4 := Lib.hid c4
  clear c1 c2 c3 c4
  have A0 := Lib.hid (AtL.new_ n0 n1 n2 sc kd ln up dn wd ht ca cn cc w)
  go_enter Try.func5, Try.ntmps5
  go_wp2_with fail
  refine (awake_calls _).mono ?_
  rintro e w1 ⟨rfl, hb1⟩
  have A1 := Lib.hid (A0.out.below hb1)
  obtain ⟨f0, f1, f2, f3, f4, f5, f6, f7, f8, f9, f10, fl⟩ := A1.out
  go_wp2_with fail
  refine (C1.out _).mono ?_
  rintro e w2 ⟨rfl, hb2⟩
  have A2 := Lib.hid (A1.out.below hb2)
  clear f0 f1 f2 f3 f4 f5 f6 f7 f8 f9 f10 fl
  obtain ⟨f0, f1, f2, f3, f4, f5, f6, f7, f8, f9, f10, fl⟩ := A2.out
  go_wp2_with fail
  refine (C2.out _).mono ?_
  rintro e w3 ⟨rfl, hb3⟩
  have A3 := Lib.hid (A2.out.below hb3)
  clear f0 f1 f2 f3 f4 f5 f6 f7 f8 f9 f10 fl
  obtain ⟨f0, f1, f2, f3, f4, f5, f6, f7, f8, f9, f10, fl⟩ := A3.out
  go_wp2_with fail
  refine (C3.out _).mono ?_
  rintro e w4 ⟨rfl, hb4⟩
  have A4 := Lib.hid (A3.out.below hb4)
  clear f0 f1 f2 f3 f4 f5 f6 f7 f8 f9 f10 fl
  obtain ⟨f0, f1, f2, f3, f4, f5, f6, f7, f8, f9, f10, fl⟩ := A4.out
  go_wp2_with fail
  refine (C4.out _).mono ?_
  rintro e w5 ⟨rfl, hb5⟩
  go_wp2_with fail
  go_returns
  exact ⟨rfl, below_then ((Below.refl _ w).alloc (Nat.le_refl _) _) (below_then (below_then (below_then (below_then hb1 hb2) hb3) hb4) hb5)⟩
end Go.Proofs.Ytfalmbcnbomaoaa
