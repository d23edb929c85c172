/- Wide integers below 2^60 that are not negative: their product with one, their quotients. -/
import Derived.Test.YtfhikdgdckfalaaMB06
import Derived.Test.YtfhikdgdckfalaaMB03
import Derived.Handy
import Derived.BigQuiet
import Derived.BigRegion
import Derived.IntWalk
import Derived.Laws.BitsLemmas
import Derived.Test.YtfhikdgdckfalaaMB05

namespace Go.Proofs.Ytfhikdgdckfalaa
open Go.RowKit
set_option linter.unusedVariables false

abbrev numA (lo : Int) : Value := .agg #[.int .u64 0, .int .u64 lo, .bool false]
abbrev widA (lo : Int) : Value := .agg #[.int .i64 0, .int .i64 lo]

theorem wsize_calls (n : Nat) (hn : (n : Int) ≤ 9223372036854775807) (w : World) : Calls Try.prog 106 #[.int .i64 n] w fun e w' => e = .returned (.int .u64 n) ∧ w = w' := by
  have h0 : ¬ (n : Int) < 0 := by omega
  go_enter Try.func106, Try.ntmps106
  go_wp2
  go_ret
  exact ⟨rfl, rfl⟩
theorem signed_calls (lo : Nat) (hn : (lo : Int) ≤ 9223372036854775807) (w : World) : Calls Try.prog 107 #[.int .u64 0, .int .u64 lo, .bool false] w fun e w' => e = .returned (numA lo) ∧ Below w.heap.size w w' := by
  go_enter Try.func107, Try.ntmps107
  go_wp2
  go_returns
  exact ⟨rfl, (Below.refl _ _).alloc (Nat.le_refl _) _⟩
set_option maxHeartbeats 1000000 in
theorem times_calls (a : Nat) (hn : (a : Int) ≤ 9223372036854775807) (w : World) : Calls Try.prog 101 #[.int .i64 a, .int .i64 1] w fun e w' => e = .returned (numA a) ∧ Below w.heap.size w w' := by
  have hb0 : Below w.heap.size w (w.alloc (.cells #[.int .u64 0, .int .u64 0, .bool false] 128)) := (Below.refl _ _).alloc (Nat.le_refl _) _
  obtain ⟨W0, hW0⟩ : ∃ W0, w.alloc (.cells #[.int .u64 0, .int .u64 0, .bool false] 128) = W0 := ⟨_, rfl⟩
  have z0 : W0.cell? ⟨w.heap.size, 0, none⟩ = some (.int .u64 0) ∧ W0.cell? ⟨w.heap.size, 1, none⟩ = some (.int .u64 0) ∧ W0.cell? ⟨w.heap.size, 2, none⟩ = some (.bool false) ∧ w.heap.size < W0.heap.size := by
    rw [← hW0]
    exact ⟨by rw [World.cell?_alloc_new]; rfl, by rw [World.cell?_alloc_new]; rfl, by rw [World.cell?_alloc_new]; rfl, by simp⟩
  have fz : ∀ i, W0.frozen? ⟨w.heap.size, i, none⟩ = false := fun i => by rw [← hW0]; exact World.frozen?_alloc_new _ _ _ _
  rw [hW0] at hb0
  have s1 := Lib.hid (wsize_calls a hn W0)
  have s2 := Lib.hid (wsize_calls 1 (by omega) W0)
  have m := mul64_calls a 1 (by omega) (by omega) W0
  rw [Nat.mul_one, show a / 18446744073709551616 = 0 by omega, show a % 18446744073709551616 = a by omega] at m
  have M := Lib.hid m
  have SG := Lib.hid (signed_calls a hn W0)
  have B0 := Lib.hid hb0
  have Z0 := Lib.hid z0
  have FZ := Lib.hid fz
  have hn0 : ¬ (a : Int) < 0 := by omega
  clear hb0 m z0 fz
  go_enter Try.func101, Try.ntmps101
  go_wp2_with fail
  refine (s1.out).mono ?_
  rintro e w1 ⟨rfl, rfl⟩
  go_wp2_with fail
  refine (s2.out).mono ?_
  rintro e w1 ⟨rfl, rfl⟩
  go_wp2_with fail
  refine (M.out).mono ?_
  rintro e w1 ⟨rfl, rfl⟩
  go_wp2_with fail
  refine (SG.out).mono ?_
  rintro e w1 ⟨rfl, b1⟩
  obtain ⟨z0, z1, z2, zl⟩ := Z0.out
  have y0 := (b1.cell (p := ⟨w.heap.size, 0, none⟩) zl).trans z0
  have y1 := (b1.cell (p := ⟨w.heap.size, 1, none⟩) zl).trans z1
  have y2 := (b1.cell (p := ⟨w.heap.size, 2, none⟩) zl).trans z2
  have g0 := (b1.frozen (p := ⟨w.heap.size, 0, none⟩) zl).trans (FZ.out 0)
  have g1 := (b1.frozen (p := ⟨w.heap.size, 1, none⟩) zl).trans (FZ.out 1)
  have g2 := (b1.frozen (p := ⟨w.heap.size, 2, none⟩) zl).trans (FZ.out 2)
  have B1 := Lib.hid (below_then B0.out b1 B0.out.size)
  have q := stored3 (.int .u64 0) (.int .u64 a) (.bool false) y0 y1 y2
  have hbw := ((B1.out.setCell (p := ⟨w.heap.size, 0, none⟩) (Nat.le_refl _) (.int .u64 0)).setCell (p := ⟨w.heap.size, 1, none⟩) (Nat.le_refl _) (.int .u64 a)).setCell (p := ⟨w.heap.size, 2, none⟩) (Nat.le_refl _) (.bool false)
  have Q := Lib.hid q
  have HBW := Lib.hid hbw
  clear b1 z0 z1 z2 q hbw
  go_wp2
  have q := Q.out
  have hbw := HBW.out
  generalize ((w1.setCell ⟨w.heap.size, 0, none⟩ (.int .u64 0)).setCell ⟨w.heap.size, 1, none⟩ (.int .u64 a)).setCell ⟨w.heap.size, 2, none⟩ (.bool false) = W3 at *
  obtain ⟨q0, q1, q2⟩ := q
  exact bodyPost_ret (v := numA a) (by simp [results, Try.results101, go_sem, q0, q1, q2]) rfl ⟨rfl, hbw⟩

theorem shr60 (lo : Nat) (h : lo < 1152921504606846976) : (lo : Int) / 1152921504606846976 = 0 := by omega
set_option maxHeartbeats 1000000 in
theorem wplaced_calls (lo : Nat) (hn : lo < 1152921504606846976) (w : World) : Calls Try.prog 100 #[numA lo] w fun e w' => e = .returned (.tuple #[widA lo, .int .i64 0]) ∧ Below w.heap.size w w' := by
  have hl : (lo : Int) ≤ 1152921504606846975 := by omega
  have hs := shr60 lo hn
  have hm : bits .and .u64 (lo : Int) 1152921504606846975 = (lo : Int) := by
    have := bits_mask .u64 64 (by decide) (fun n h0 h1 => by rw [IntKind.wrap_u64]; omega) 60 (by decide) (lo : Int) (by omega) (by omega)
    rw [show (1152921504606846975 : Int) = 2 ^ 60 - 1 by decide, this]
    omega
  have hs2 : (lo : Int) / 2 ^ 60 = 0 := by omega
  have ho : bits .or .u64 0 0 = 0 := by decide
  have w1 : IntKind.i64.wrap (lo : Int) = (lo : Int) := IntWalk.i64_in _ (by omega)
  have w2 : IntKind.i64.wrap 0 = 0 := IntWalk.i64_in _ (by omega)
  have w3 : IntKind.u64.wrap 0 = 0 := by decide
  obtain ⟨W0, hW0⟩ : ∃ W0, (w.alloc (.cells #[.int .u64 0, .int .u64 lo, .bool false] 128)).alloc (.cells #[.int .i64 0, .int .i64 0] 117) = W0 := ⟨_, rfl⟩
  have hb0 : Below w.heap.size w W0 := by rw [← hW0]; exact ((Below.refl _ _).alloc (Nat.le_refl _) _).alloc (by simp) _
  have e1 : (w.alloc (.cells #[.int .u64 0, .int .u64 lo, .bool false] 128)).heap.size = w.heap.size + 1 := by simp
  have k0 : W0.cell? ⟨w.heap.size, 0, none⟩ = some (.int .u64 0) := by rw [← hW0, World.cell?_alloc_lt _ _ _ (by rw [e1]; exact Nat.lt_succ_self _), World.cell?_alloc_new]; rfl
  have k1 : W0.cell? ⟨w.heap.size, 1, none⟩ = some (.int .u64 lo) := by rw [← hW0, World.cell?_alloc_lt _ _ _ (by rw [e1]; exact Nat.lt_succ_self _), World.cell?_alloc_new]; rfl
  have k2 : W0.cell? ⟨w.heap.size, 2, none⟩ = some (.bool false) := by rw [← hW0, World.cell?_alloc_lt _ _ _ (by rw [e1]; exact Nat.lt_succ_self _), World.cell?_alloc_new]; rfl
  have z0 : W0.cell? ⟨w.heap.size + 1, 0, none⟩ = some (.int .i64 0) := by rw [← hW0, ← e1, World.cell?_alloc_new]; rfl
  have z1 : W0.cell? ⟨w.heap.size + 1, 1, none⟩ = some (.int .i64 0) := by rw [← hW0, ← e1, World.cell?_alloc_new]; rfl
  have f0 : W0.frozen? ⟨w.heap.size + 1, 0, none⟩ = false := by rw [← hW0, ← e1]; exact World.frozen?_alloc_new _ _ _ _
  have f1 : W0.frozen? ⟨w.heap.size + 1, 1, none⟩ = false := by rw [← hW0, ← e1]; exact World.frozen?_alloc_new _ _ _ _
  have B0 := Lib.hid hb0
  clear hn hb0 e1
  go_enter Try.func100, Try.ntmps100
  go_wp2
  go_quiet (fail)
  obtain ⟨W1, hW1⟩ : ∃ W1, W0.drewN nq = W1 := ⟨_, rfl⟩
  have c0 : W1.cell? ⟨w.heap.size + 1, 0, none⟩ = some (.int .i64 0) := by rw [← hW1]; exact z0
  have c1 : W1.cell? ⟨w.heap.size + 1, 1, none⟩ = some (.int .i64 0) := by rw [← hW1]; exact z1
  have c2 : W1.cell? ⟨w.heap.size, 2, none⟩ = some (.bool false) := by rw [← hW1]; exact k2
  have d0 : W1.frozen? ⟨w.heap.size + 1, 0, none⟩ = false := by rw [← hW1]; exact f0
  have d1 : W1.frozen? ⟨w.heap.size + 1, 1, none⟩ = false := by rw [← hW1]; exact f1
  have hb1 : Below w.heap.size w W1 := by rw [← hW1]; exact below_drewN B0.out nq
  have q0 : (((W1.setCell ⟨w.heap.size + 1, 0, none⟩ (.int .i64 0)).setCell ⟨w.heap.size + 1, 1, none⟩ (.int .i64 lo))).cell? ⟨w.heap.size + 1, 0, none⟩ = some (.int .i64 0) := by
    rw [World.cell?_setCell_other _ _ _ _ (by simp)]; exact World.cell?_setCell_same _ _ _ c0
  have q1 : (((W1.setCell ⟨w.heap.size + 1, 0, none⟩ (.int .i64 0)).setCell ⟨w.heap.size + 1, 1, none⟩ (.int .i64 lo))).cell? ⟨w.heap.size + 1, 1, none⟩ = some (.int .i64 lo) := by
    exact World.cell?_setCell_same _ _ _ (by rw [World.cell?_setCell_other _ _ _ _ (by simp)]; exact c1)
  have hbw := (hb1.setCell (p := ⟨w.heap.size + 1, 0, none⟩) (Nat.le_succ _) (.int .i64 0)).setCell (p := ⟨w.heap.size + 1, 1, none⟩) (Nat.le_succ _) (.int .i64 lo)
  have Q0 := Lib.hid q0
  have Q1 := Lib.hid q1
  have HBW := Lib.hid hbw
  have HW1 := Lib.hid hW1
  rw [hW1]
  clear w1 w2 w3 q0 q1 hbw hb1 hW1 z0 z1 f0 f1 k0 k1 k2 hW0
  go_wp2
  have q0 := Q0.out
  have q1 := Q1.out
  have hbw := HBW.out
  generalize (W1.setCell ⟨w.heap.size + 1, 0, none⟩ (.int .i64 0)).setCell ⟨w.heap.size + 1, 1, none⟩ (.int .i64 lo) = W3 at *
  exact bodyPost_ret (v := .tuple #[widA lo, .int .i64 0]) (by simp [results, Try.results100, go_sem, q0, q1]) rfl ⟨rfl, hbw⟩

/-- Block g holds two values and may be written. -/
structure TBox (w : World) (g : Nat) (x y : Value) : Prop where
  c0 : w.cell? ⟨g, 0, none⟩ = some x
  c1 : w.cell? ⟨g, 1, none⟩ = some y
  f0 : w.frozen? ⟨g, 0, none⟩ = false
  f1 : w.frozen? ⟨g, 1, none⟩ = false
  lt : g < w.heap.size
theorem TBox.made (w : World) (x y : Value) (t : TypeId) : TBox (w.alloc (.cells #[x, y] t)) w.heap.size x y :=
  ⟨by rw [World.cell?_alloc_new]; rfl, by rw [World.cell?_alloc_new]; rfl, World.frozen?_alloc_new _ _ _ _, World.frozen?_alloc_new _ _ _ _, by simp⟩
theorem TBox.below {w w' : World} {g B : Nat} {x y : Value} (h : TBox w g x y) (hb : Below B w w') (hg : g < B) : TBox w' g x y :=
  ⟨(hb.cell (p := ⟨g, 0, none⟩) hg).trans h.c0, (hb.cell (p := ⟨g, 1, none⟩) hg).trans h.c1, (hb.frozen (p := ⟨g, 0, none⟩) hg).trans h.f0, (hb.frozen (p := ⟨g, 1, none⟩) hg).trans h.f1, Nat.lt_of_lt_of_le h.lt hb.size⟩
theorem TBox.put {w : World} {g : Nat} {x y : Value} (h : TBox w g x y) (u v : Value) : TBox ((w.setCell ⟨g, 0, none⟩ u).setCell ⟨g, 1, none⟩ v) g u v :=
  ⟨by rw [World.cell?_setCell_other _ _ _ _ (by simp)]; exact World.cell?_setCell_same _ _ _ h.c0, World.cell?_setCell_same _ _ _ (by rw [World.cell?_setCell_other _ _ _ _ (by simp)]; exact h.c1),
    by rw [World.frozen?_setCell, World.frozen?_setCell]; exact h.f0, by rw [World.frozen?_setCell, World.frozen?_setCell]; exact h.f1, by simp [World.setCell]; exact h.lt⟩
theorem TBox.parts {w : World} {g : Nat} {x y : Value} (h : TBox w g x y) : w.cell? ⟨g, 0, none⟩ = some x ∧ w.cell? ⟨g, 1, none⟩ = some y ∧ w.frozen? ⟨g, 0, none⟩ = false ∧ w.frozen? ⟨g, 1, none⟩ = false ∧ g < w.heap.size := ⟨h.c0, h.c1, h.f0, h.f1, h.lt⟩
theorem put2_below {w0 w : World} {B g : Nat} (hb : Below B w0 w) (hg : B ≤ g) (u v : Value) : Below B w0 ((w.setCell ⟨g, 0, none⟩ u).setCell ⟨g, 1, none⟩ v) :=
  (hb.setCell (p := ⟨g, 0, none⟩) hg u).setCell (p := ⟨g, 1, none⟩) hg v

set_option maxHeartbeats 1000000 in
theorem Product_calls (a : Nat) (hn : a < 1152921504606846976) (w : World) : Calls Try.prog 94 #[.int .i64 a, .int .i64 1] w fun e w' => e = .returned (.tuple #[widA a, .int .i64 0]) ∧ Below w.heap.size w w' := by
  obtain ⟨W0, hW0⟩ : ∃ W0, w.alloc (.cells #[.int .i64 0, .int .i64 0] 117) = W0 := ⟨_, rfl⟩
  have hb0 : Below w.heap.size w W0 := by rw [← hW0]; exact (Below.refl _ _).alloc (Nat.le_refl _) _
  have t0 : TBox W0 w.heap.size (.int .i64 0) (.int .i64 0) := by rw [← hW0]; exact TBox.made _ _ _ _
  have T0 := Lib.hid t0
  have B0 := Lib.hid hb0
  have TM := Lib.hid (times_calls a (by omega) W0)
  have PL := Lib.hid (fun W => wplaced_calls a hn W)
  have hl : (a : Int) ≤ 1152921504606846975 := by omega
  clear hb0 t0 hn
  go_enter Try.func94, Try.ntmps94
  go_wp2_with fail
  refine (TM.out).mono ?_
  rintro e w1 ⟨rfl, b1⟩
  have B1 := Lib.hid (below_then B0.out b1 B0.out.size)
  have T1 := Lib.hid (T0.out.below b1 T0.out.lt)
  clear b1
  go_wp2_with fail
  refine (PL.out _).mono ?_
  rintro e w2 ⟨rfl, b2⟩
  have t2 := T1.out.below b2 T1.out.lt
  have hbw := put2_below (below_then B1.out b2 B1.out.size) (Nat.le_refl _) (.int .i64 0) (.int .i64 a)
  have HBW := Lib.hid hbw
  have Q := Lib.hid (t2.put (.int .i64 0) (.int .i64 a))
  obtain ⟨c0, c1, f0, f1, gl⟩ := t2.parts
  clear b2 t2 hbw
  go_wp2
  have hbw := HBW.out
  have q := Q.out
  generalize (w2.setCell ⟨w.heap.size, 0, none⟩ (.int .i64 0)).setCell ⟨w.heap.size, 1, none⟩ (.int .i64 a) = W3 at *
  obtain ⟨q0, q1, -, -, -⟩ := q
  exact bodyPost_ret (v := .tuple #[widA a, .int .i64 0]) (by simp [results, Try.results94, go_sem, q0, q1]) rfl ⟨rfl, hbw⟩
theorem wValid_calls (lo : Nat) (hn : lo < 1152921504606846976) (w : World) : Calls Try.prog 108 #[widA lo] w fun e w' => e = .returned (.bool true) ∧ Below w.heap.size w w' := by
  have hl : (lo : Int) < 1152921504606846976 := by omega
  clear hn
  go_enter Try.func108, Try.ntmps108
  go_wp2
  go_ret
  exact ⟨rfl, (Below.refl _ _).alloc (Nat.le_refl _) _⟩
set_option maxHeartbeats 1000000 in
theorem value_calls (lo : Nat) (hn : lo < 1152921504606846976) (w : World) : Calls Try.prog 110 #[widA lo] w fun e w' => e = .returned (numA lo) ∧ Below w.heap.size w w' := by
  have hl : (lo : Int) < 1152921504606846976 := by omega
  have SZ := Lib.hid (fun W => (by simpa using wsize_calls 0 (by omega) W : Calls Try.prog 106 #[.int .i64 0] W fun e w' => e = .returned (.int .u64 0) ∧ W = w'))
  have ho : bits .or .u64 0 (lo : Int) = (lo : Int) := by
    have := bits_join .u64 64 (by decide) (fun n h0 h1 => by rw [IntKind.wrap_u64]; omega) 60 0 (lo : Int) (by omega) (by omega) (by omega) (by omega) (by omega) (by omega)
    simpa using this
  clear hn
  go_enter Try.func110, Try.ntmps110
  go_wp2_with fail
  refine (SZ.out _).mono ?_
  rintro e w1 ⟨rfl, rfl⟩
  go_wp2
  go_returns
  exact ⟨rfl, ((Below.refl _ _).alloc (Nat.le_refl _) _).alloc (by simp) _⟩
theorem whole_calls (q : Nat) (hq : (q : Int) ≤ 9223372036854775807) (w : World) : Calls Try.prog 112 #[.int .u64 q, .bool false] w fun e w' => e = .returned (.tuple #[.int .i64 q, .int .i64 0]) ∧ w = w' := by
  go_enter Try.func112, Try.ntmps112
  go_wp2
  go_ret2
  exact ⟨rfl, rfl⟩
/-- The quotient, rounded down or up. -/
def quoV (a b : Nat) (up : Bool) : Nat := if up = true ∧ 0 < a % b then a / b + 1 else a / b
set_option maxHeartbeats 2000000 in
theorem quotient_calls (a b : Nat) (up : Bool) (ha : a < 1152921504606846976) (hb0 : 0 < b) (hb : (b : Int) ≤ 9223372036854775807) (w : World) :
    Calls Try.prog 109 #[numA a, .int .i64 b, .bool up] w fun e w' => e = .returned (.tuple #[.int .i64 (quoV a b up), .int .i64 0]) ∧ Below w.heap.size w w' := by
  obtain ⟨W0, hW0⟩ : ∃ W0, w.alloc (.cells #[.int .u64 0, .int .u64 a, .bool false] 128) = W0 := ⟨_, rfl⟩
  have hbe : Below w.heap.size w W0 := by rw [← hW0]; exact (Below.refl _ _).alloc (Nat.le_refl _) _
  have k : W0.cell? ⟨w.heap.size, 0, none⟩ = some (.int .u64 0) ∧ W0.cell? ⟨w.heap.size, 1, none⟩ = some (.int .u64 a) ∧ W0.cell? ⟨w.heap.size, 2, none⟩ = some (.bool false) := by
    rw [← hW0]
    exact ⟨by rw [World.cell?_alloc_new]; rfl, by rw [World.cell?_alloc_new]; rfl, by rw [World.cell?_alloc_new]; rfl⟩
  obtain ⟨k0, k1, k2⟩ := k
  have B0 := Lib.hid hbe
  have SZ := Lib.hid (wsize_calls b hb W0)
  have dv := div64_calls 0 a b (by omega) hb0 (by omega) W0
  rw [Nat.zero_mul, Nat.zero_add, show ((0 : Nat) : Int) = 0 from rfl] at dv
  have hqd : a / b ≤ a := Nat.div_le_self _ _
  have hbn : ¬ (b : Int) < 0 := by omega
  have hbp : (0 : Int) < (b : Int) := by omega
  obtain ⟨V, hV⟩ : ∃ V, quoV a b up = V := ⟨_, rfl⟩
  rw [hV]
  unfold quoV at hV
  generalize a / b = q at *
  generalize a % b = r at *
  have hq2 : (q : Int) ≤ 1152921504606846976 := by omega
  have DV := Lib.hid dv
  have WH := Lib.hid (fun (x : Nat) (hx : (x : Int) ≤ 9223372036854775807) W => whole_calls x hx W)
  have HV := Lib.hid hV
  clear hbe dv hqd ha hb0 hV
  cases up
  · have hv := HV.out
    rw [if_neg (by simp)] at hv
    subst hv
    by_cases hr : (0 : Int) < (r : Int) <;> (
      go_enter Try.func109, Try.ntmps109
      go_wp2_with fail
      refine (SZ.out).mono ?_
      rintro e w1 ⟨rfl, rfl⟩
      go_wp2_with fail
      refine (DV.out).mono ?_
      rintro e w2 ⟨rfl, nq, rfl⟩
      go_wp2_with fail
      refine (WH.out q (by omega) _).mono ?_
      rintro e w3 ⟨rfl, rfl⟩
      go_wp2
      go_returns
      exact ⟨rfl, below_drewN B0.out nq⟩)
  · by_cases hr : (0 : Int) < (r : Int)
    · have hv := HV.out
      rw [if_pos ⟨rfl, by omega⟩] at hv
      subst hv
      obtain ⟨Q, hQ⟩ : ∃ Q, q + 1 = Q := ⟨_, rfl⟩
      have hQ2 : (q : Int) + 1 = (Q : Int) := by omega
      have hQ3 : ((Q : Int) == 0) = false := by simp; omega
      rw [hQ]
      clear hQ
      go_enter Try.func109, Try.ntmps109
      go_wp2_with fail
      refine (SZ.out).mono ?_
      rintro e w1 ⟨rfl, rfl⟩
      go_wp2_with fail
      refine (DV.out).mono ?_
      rintro e w2 ⟨rfl, nq, rfl⟩
      go_wp2_with fail
      refine (WH.out Q (by omega) _).mono ?_
      rintro e w3 ⟨rfl, rfl⟩
      go_wp2
      go_returns
      exact ⟨rfl, below_drewN B0.out nq⟩
    · have hv := HV.out
      rw [if_neg (by rintro ⟨_, h⟩; omega)] at hv
      subst hv
      go_enter Try.func109, Try.ntmps109
      go_wp2_with fail
      refine (SZ.out).mono ?_
      rintro e w1 ⟨rfl, rfl⟩
      go_wp2_with fail
      refine (DV.out).mono ?_
      rintro e w2 ⟨rfl, nq, rfl⟩
      go_wp2_with fail
      refine (WH.out q (by omega) _).mono ?_
      rintro e w3 ⟨rfl, rfl⟩
      go_wp2
      go_returns
      exact ⟨rfl, below_drewN B0.out nq⟩
end Go.Proofs.Ytfhikdgdckfalaa

/- Depths within a table, the blocks of a table. No program in sight. -/
namespace Go.Proofs.Ytfhikdgdckfalaa
open Go.RowKit
set_option linter.unusedVariables false

def inT (ds ps : List Int) (x y : Int) : Bool := (plcV ds x).2 && (plcV ps y).2
theorem dep_none {ds ps : List Int} {rows : List (List Int)} {x y : Int} (h : inT ds ps x y = false) : depV ds ps rows x y = (0, 0, false) := by
  unfold depV
  rw [if_neg]
  intro hh
  unfold inT at h
  rw [hh.1, hh.2] at h
  cases h
theorem mix_le {p : Plc} {m a b M : Int} (h : POk p m) (a1 : a ≤ M) (b1 : b ≤ M) : mixV p a b ≤ p.whole * M := by
  have h0 := h.r0
  have h1 := h.r1
  have e1 : (p.whole - p.rest) * a ≤ (p.whole - p.rest) * M := Int.mul_le_mul_of_nonneg_left a1 (by omega)
  have e2 : p.rest * b ≤ p.rest * M := Int.mul_le_mul_of_nonneg_left b1 h0
  have e3 : (p.whole - p.rest) * M + p.rest * M = p.whole * M := by rw [← Int.add_mul, Int.sub_add_cancel]
  unfold mixV; omega
theorem tl_cell {ds ps : List Int} {rows : List (List Int)} (ok : TOk ds ps rows) {k j : Nat} (hk : k < ps.length) (hj : j < ds.length) : 0 ≤ el (tl rows k) j ∧ el (tl rows k) j ≤ 4194304 := by
  have h := ok.cl (tl rows k) (tl_mem (by rw [ok.rl]; exact hk))
  exact h.2 _ (el_mem (by rw [h.1]; exact hj))
theorem pair_eta {α β : Type} {p : α × β} {b : β} (h : p.2 = b) : p = (p.1, b) := by rw [← h]
theorem dep_some {ds ps : List Int} {rows : List (List Int)} {x y : Int} (ok : TOk ds ps rows) (h : inT ds ps x y = true) :
    ∃ a b : Nat, depV ds ps rows x y = ((a : Int), (b : Int), true) ∧ a < 1152921504606846976 ∧ 0 < b ∧ (b : Int) ≤ 9223372036854775807 ∧ a ≤ b * 4194304 := by
  unfold inT at h
  rw [Bool.and_eq_true] at h
  obtain ⟨i1, j1, ei1, ej1, li1, lj1, p1, w1⟩ := plc_ok ok.da ok.dr (by omega) (pair_eta h.1)
  obtain ⟨i2, j2, ei2, ej2, li2, lj2, p2, w2⟩ := plc_ok ok.pa ok.pr (by omega) (pair_eta h.2)
  unfold depV
  rw [if_pos h, ei1, ej1, ei2, ej2]
  simp only [Int.toNat_natCast]
  generalize (plcV ds x).1 = P at *
  generalize (plcV ps y).1 = Q at *
  have c1 := tl_cell ok li2 li1
  have c2 := tl_cell ok li2 lj1
  have c3 := tl_cell ok lj2 li1
  have c4 := tl_cell ok lj2 lj1
  generalize el (tl rows i2) i1 = a1 at *
  generalize el (tl rows i2) j1 = a2 at *
  generalize el (tl rows j2) i1 = a3 at *
  generalize el (tl rows j2) j1 = a4 at *
  have m1 := mix_bd p1 (by omega) c1.1 c1.2 c2.1 c2.2
  have m2 := mix_bd p1 (by omega) c3.1 c3.2 c4.1 c4.2
  have n1 := mix_le p1 c1.2 c2.2
  have n2 := mix_le p1 c3.2 c4.2
  have m3 := mix_bd p2 (by omega) m1.2.2.2.2.1 (show mixV P a1 a2 ≤ 10871635968000 by have := m1.2.2.2.2.2; omega) m2.2.2.2.2.1 (show mixV P a3 a4 ≤ 10871635968000 by have := m2.2.2.2.2.2; omega)
  have n3 := mix_le p2 n1 n2
  obtain ⟨a, ha⟩ := Int.eq_ofNat_of_zero_le m3.2.2.2.2.1
  have wb : P.whole * Q.whole ≤ 2592000 * 10000 := Int.mul_le_mul p1.w1 p2.w1 (by omega) (by omega)
  have w0 : 0 < P.whole * Q.whole := Int.mul_pos w1 w2
  obtain ⟨b, hb⟩ := Int.eq_ofNat_of_zero_le (Int.le_of_lt w0)
  refine ⟨a, b, by rw [ha, hb], ?_, by omega, by omega, ?_⟩
  · have := m3.2.2.2.2.2; omega
  · have e : Q.whole * (P.whole * 4194304) = (b : Int) * 4194304 := by rw [← hb, ← Int.mul_assoc, Int.mul_comm Q.whole]
    have : (a : Int) ≤ ((b * 4194304 : Nat) : Int) := by rw [← ha, Int.natCast_mul]; rw [e] at n3; exact n3
    omega
/-- The lower bound of the depth, the upper one. -/
def loV (ds ps : List Int) (rows : List (List Int)) (y x : Int) : Nat := quoV (depV ds ps rows x y).1.toNat (depV ds ps rows x y).2.1.toNat false
def hiV (ds ps : List Int) (rows : List (List Int)) (y x : Int) : Nat := quoV (depV ds ps rows x y).1.toNat (depV ds ps rows x y).2.1.toNat true
theorem loV_eq {ds ps : List Int} {rows : List (List Int)} {x y : Int} {a b : Nat} (h : depV ds ps rows x y = ((a : Int), (b : Int), true)) : loV ds ps rows y x = a / b := by
  unfold loV; rw [h]; simp [quoV]
theorem loV_le {ds ps : List Int} {rows : List (List Int)} {x y : Int} (ok : TOk ds ps rows) (h : inT ds ps x y = true) : loV ds ps rows y x ≤ 4194304 := by
  obtain ⟨a, b, h1, h2, h3, h4, h5⟩ := dep_some ok h
  rw [loV_eq h1]
  exact Nat.div_le_of_le_mul h5
/-- An ascending list: what lies within it. -/
theorem plc_in {l : List Int} {x : Int} (ha : Asc l) (hl : 0 < l.length) : (plcV l x).2 = true ↔ el l 0 ≤ x ∧ x ≤ el l (l.length - 1) := by
  have hle := lb_le x l
  unfold plcV
  by_cases h1 : inL x l = true
  · rw [if_pos h1]
    unfold inL at h1
    rw [Bool.and_eq_true, decide_eq_true_eq, decide_eq_true_eq] at h1
    have e1 := asc_le ha (show 0 ≤ lbN x l by omega) h1.1
    have e2 := asc_le ha (show lbN x l ≤ l.length - 1 by omega) (by omega)
    simp only [true_iff]
    rw [h1.2] at e1 e2
    exact ⟨e1, e2⟩
  · rw [if_neg h1]
    have hn : lbN x l < l.length → ¬ el l (lbN x l) = x := fun a b => h1 (by unfold inL; rw [decide_eq_true a, decide_eq_true b]; rfl)
    by_cases h2 : lbN x l = 0 ∨ lbN x l = l.length
    · rw [if_pos h2]
      simp only [Bool.false_eq_true, false_iff]
      intro hh
      rcases h2 with e | e
      · have := lb_at (x := x) (l := l) (by omega)
        have := hn (by omega)
        rw [e] at *
        omega
      · have := lb_lt (x := x) (l := l) (k := l.length - 1) (by omega)
        omega
    · rw [if_neg h2]
      simp only [true_iff]
      have e1 := lb_lt (x := x) (l := l) (k := lbN x l - 1) (by omega)
      have e2 := lb_at (x := x) (l := l) (by omega)
      have e3 := asc_le ha (show 0 ≤ lbN x l - 1 by omega) (by omega)
      have e4 := asc_le ha (show lbN x l ≤ l.length - 1 by omega) (by omega)
      omega
/-- The depth of k steps, 0 of none. -/
def cumV (ds ps : List Int) (rows : List (List Int)) (y st : Int) (k : Nat) : Int := if k = 0 then 0 else (loV ds ps rows y (k * st) : Nat)
def blkF (ds ps : List Int) (rows : List (List Int)) (y st : Int) (k : Nat) : Int := cumV ds ps rows y st (k + 1) - cumV ds ps rows y st k
def blkL (ds ps : List Int) (rows : List (List Int)) (y st : Int) (n : Nat) : List Int := fl n (blkF ds ps rows y st)
/-- Both ends lie within the table. -/
def endsB (ds ps : List Int) (y st : Int) (n : Nat) : Bool := inT ds ps st y && inT ds ps ((n : Int) * st) y
theorem ends_in {ds ps : List Int} {y st : Int} {n k : Nat} (da : Asc ds) (hd : 0 < ds.length) (hs : 0 ≤ st) (h : endsB ds ps y st n = true) (h1 : 1 ≤ k) (h2 : k ≤ n) : inT ds ps ((k : Int) * st) y = true := by
  unfold endsB inT at h
  simp only [Bool.and_eq_true] at h
  unfold inT
  rw [Bool.and_eq_true]
  refine ⟨(plc_in da hd).2 ?_, h.1.2⟩
  have a1 := (plc_in da hd).1 h.1.1
  have a2 := (plc_in da hd).1 h.2.1
  have e1 : 1 * st ≤ (k : Int) * st := Int.mul_le_mul_of_nonneg_right (by omega) hs
  have e2 : (k : Int) * st ≤ (n : Int) * st := Int.mul_le_mul_of_nonneg_right (by omega) hs
  omega
def blksV (ds ps : List Int) (rows : List (List Int)) (y st : Int) (n : Nat) : List Int × Int := if endsB ds ps y st n = true then (blkL ds ps rows y st n, 0) else ([], 2)
end Go.Proofs.Ytfhikdgdckfalaa

/- The least span of integers that holds a fraction. -/
namespace Go.Proofs.Ytfhikdgdckfalaa
open Go.RowKit
set_option linter.unusedVariables false

set_option maxHeartbeats 1000000 in
theorem divided_calls (a b : Nat) (up : Bool) (ha : a < 1152921504606846976) (hb0 : 0 < b) (hb : (b : Int) ≤ 9223372036854775807) (w : World) :
    Calls Try.prog 102 #[widA a, .int .i64 b, .bool up] w fun e w' => e = .returned (.tuple #[.int .i64 (quoV a b up), .int .i64 0]) ∧ Below w.heap.size w w' := by
  obtain ⟨W0, hW0⟩ : ∃ W0, w.alloc (.cells #[.int .i64 0, .int .i64 a] 117) = W0 := ⟨_, rfl⟩
  have hbe : Below w.heap.size w W0 := by rw [← hW0]; exact (Below.refl _ _).alloc (Nat.le_refl _) _
  have t0 : TBox W0 w.heap.size (.int .i64 0) (.int .i64 a) := by rw [← hW0]; exact TBox.made _ _ _ _
  have T0 := Lib.hid t0
  have B0 := Lib.hid hbe
  have VC := Lib.hid (fun W => wValid_calls a ha W)
  have VL := Lib.hid (fun W => value_calls a ha W)
  have QC := Lib.hid (fun W => quotient_calls a b up ha hb0 hb W)
  have hz : ((b : Int) == 0) = false := by simp; omega
  obtain ⟨k0, k1, -, -, gl⟩ := t0.parts
  generalize quoV a b up = V at *
  clear hbe t0
  go_enter Try.func102, Try.ntmps102
  go_wp2_with fail
  refine (VC.out _).mono ?_
  rintro e w1 ⟨rfl, b1⟩
  have B1 := Lib.hid (below_then B0.out b1 B0.out.size)
  have T1 := Lib.hid (T0.out.below b1 T0.out.lt)
  obtain ⟨y0, y1, -, -, yl⟩ := T1.out.parts
  clear b1
  go_wp2_with fail
  refine (VL.out _).mono ?_
  rintro e w2 ⟨rfl, b2⟩
  have B2 := Lib.hid (below_then B1.out b2 B1.out.size)
  clear b2
  go_wp2_with fail
  refine (QC.out _).mono ?_
  rintro e w3 ⟨rfl, b3⟩
  have B3 := Lib.hid (below_then B2.out b3 B2.out.size)
  clear b3
  go_wp2
  go_returns
  exact ⟨rfl, B3.out⟩
theorem Floor_calls (a b : Nat) (ha : a < 1152921504606846976) (hb0 : 0 < b) (hb : (b : Int) ≤ 9223372036854775807) (w : World) :
    Calls Try.prog 95 #[widA a, .int .i64 b] w fun e w' => e = .returned (.tuple #[.int .i64 (quoV a b false), .int .i64 0]) ∧ Below w.heap.size w w' := by
  have hbe : Below w.heap.size w (w.alloc (.cells #[.int .i64 0, .int .i64 a] 117)) := (Below.refl _ _).alloc (Nat.le_refl _) _
  have B0 := Lib.hid hbe
  have DC := Lib.hid (fun W => divided_calls a b false ha hb0 hb W)
  generalize quoV a b false = V at *
  clear hbe
  go_enter Try.func95, Try.ntmps95
  go_wp2_with fail
  refine (DC.out _).mono ?_
  rintro e w1 ⟨rfl, b1⟩
  have B1 := Lib.hid (below_then B0.out b1 B0.out.size)
  clear b1
  go_wp2
  go_returns
  exact ⟨rfl, B1.out⟩
theorem Ceil_calls (a b : Nat) (ha : a < 1152921504606846976) (hb0 : 0 < b) (hb : (b : Int) ≤ 9223372036854775807) (w : World) :
    Calls Try.prog 96 #[widA a, .int .i64 b] w fun e w' => e = .returned (.tuple #[.int .i64 (quoV a b true), .int .i64 0]) ∧ Below w.heap.size w w' := by
  have hbe : Below w.heap.size w (w.alloc (.cells #[.int .i64 0, .int .i64 a] 117)) := (Below.refl _ _).alloc (Nat.le_refl _) _
  have B0 := Lib.hid hbe
  have DC := Lib.hid (fun W => divided_calls a b true ha hb0 hb W)
  generalize quoV a b true = V at *
  clear hbe
  go_enter Try.func96, Try.ntmps96
  go_wp2_with fail
  refine (DC.out _).mono ?_
  rintro e w1 ⟨rfl, b1⟩
  have B1 := Lib.hid (below_then B0.out b1 B0.out.size)
  clear b1
  go_wp2
  go_returns
  exact ⟨rfl, B1.out⟩
structure SpanR (w : World) (lo hi : Int) (e : Ending) (w' : World) : Prop where
  e : e = .returned (.tuple #[.agg #[.int .i64 lo, .int .i64 hi], .int .i64 0])
  b : Below w.heap.size w w'
set_option maxRecDepth 100000 in
set_option maxHeartbeats 2000000 in
theorem span_calls (a b : Nat) (ha : a < 1152921504606846976) (hb0 : 0 < b) (hb : (b : Int) ≤ 9223372036854775807) (w : World) :
    Calls Try.prog 88 #[.int .i64 a, .int .i64 1, .int .i64 b] w (SpanR w (quoV a b false) (quoV a b true)) := by
  obtain ⟨W0, hW0⟩ : ∃ W0, w.alloc (.cells #[.int .i64 0, .int .i64 0] 54) = W0 := ⟨_, rfl⟩
  have hbe : Below w.heap.size w W0 := by rw [← hW0]; exact (Below.refl _ _).alloc (Nat.le_refl _) _
  have t0 : TBox W0 w.heap.size (.int .i64 0) (.int .i64 0) := by rw [← hW0]; exact TBox.made _ _ _ _
  have T0 := Lib.hid t0
  have B0 := Lib.hid hbe
  have PC := Lib.hid (Product_calls a ha W0)
  have FC := Lib.hid (fun W => Floor_calls a b ha hb0 hb W)
  have CC := Lib.hid (fun W => Ceil_calls a b ha hb0 hb W)
  generalize quoV a b false = x at *
  generalize quoV a b true = y at *
  clear hbe t0
  go_enter Try.func88, Try.ntmps88
  go_wp2_with fail
  refine (PC.out).mono ?_
  rintro e w1 ⟨rfl, b1⟩
  have ba : Below w1.heap.size w1 (w1.alloc (.cells #[.int .i64 0, .int .i64 a] 117)) := (Below.refl _ _).alloc (Nat.le_refl _) _
  have bb := below_then b1 ba b1.size
  have P1 := Lib.hid (TBox.made w1 (.int .i64 0) (.int .i64 a) 117)
  have T1 := Lib.hid (T0.out.below bb T0.out.lt)
  have B1 := Lib.hid (below_then B0.out bb B0.out.size)
  clear b1 ba bb
  go_wp2_with fail
  refine (FC.out _).mono ?_
  rintro e w2 ⟨rfl, b2⟩
  have P2 := Lib.hid (P1.out.below b2 P1.out.lt)
  have T2 := Lib.hid (T1.out.below b2 T1.out.lt)
  have B2 := Lib.hid (below_then B1.out b2 B1.out.size)
  obtain ⟨y0, y1, -, -, yl⟩ := P2.out.parts
  clear b2
  go_wp2_with fail
  refine (CC.out _).mono ?_
  rintro e w3 ⟨rfl, b3⟩
  have t3 := T2.out.below b3 T2.out.lt
  have hbw := put2_below (below_then B2.out b3 B2.out.size) (Nat.le_refl _) (.int .i64 x) (.int .i64 y)
  have HBW := Lib.hid hbw
  have Q := Lib.hid (t3.put (.int .i64 x) (.int .i64 y))
  obtain ⟨c0, c1, f0, f1, gl⟩ := t3.parts
  clear b3 t3 hbw
  go_wp2
  have hbw := HBW.out
  have q := Q.out
  generalize (w3.setCell ⟨w.heap.size, 0, none⟩ (.int .i64 x)).setCell ⟨w.heap.size, 1, none⟩ (.int .i64 y) = W3 at *
  obtain ⟨q0, q1, -, -, -⟩ := q
  exact bodyPost_ret (v := .tuple #[.agg #[.int .i64 x, .int .i64 y], .int .i64 0]) (by simp [results, Try.results88, go_sem, q0, q1]) rfl ⟨rfl, hbw⟩
end Go.Proofs.Ytfhikdgdckfalaa
