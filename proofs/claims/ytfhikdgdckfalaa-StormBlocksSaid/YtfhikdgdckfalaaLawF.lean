/- The law StormBlocks returns true. -/
import Derived.Test.YtfhikdgdckfalaaMB18
import Derived.Test.YtfhikdgdckfalaaMB13
import Derived.Test.YtfhikdgdckfalaaAltR
import Derived.Test.YtfhikdgdckfalaaBig
namespace Go.Proofs.Ytfhikdgdckfalaa
open Go.RowKit
set_option linter.unusedVariables false

theorem vok_bool (ds ps : List Int) (rows : List (List Int)) : ∃ v : Bool, (v = true ↔ VOk ds ps rows) := by
  by_cases h : VOk ds ps rows
  · exact ⟨true, by simp [h]⟩
  · exact ⟨false, by simp [h]⟩

set_option maxHeartbeats 8000000 in
set_option maxRecDepth 100000 in
theorem BlocksLaw_calls {A0 A1 A2 : Option Addr} {n0 c0 n1 c1 n2 c2 : Nat} {ds ps : List Int} {rows : List (List Int)} (y f st n p : Int) (w : World) (h0 : Ints w A0 n0 c0 ds) (h1 : Ints w A1 n1 c1 ps) (h2 : Tab w A2 n2 c2 rows)
    (by' : -9223372036854775808 ≤ y ∧ y ≤ 9223372036854775807) (bf : -9223372036854775808 ≤ f ∧ f ≤ 9223372036854775807) (bs : -9223372036854775808 ≤ st ∧ st ≤ 9223372036854775807) (bn : -9223372036854775808 ≤ n ∧ n ≤ 9223372036854775807) (bp : -9223372036854775808 ≤ p ∧ p ≤ 9223372036854775807) :
    Calls Try.prog 4 #[tabA A0 n0 c0 A1 n1 c1 A2 n2 c2, .int .i64 y, .int .i64 f, .int .i64 st, .int .i64 n, .int .i64 p] w fun e w' => e = .returned (.bool true) ∧ Below w.heap.size w w' := by
  obtain ⟨v, hv⟩ := vok_bool ds ps rows
  obtain ⟨W0, hW0⟩ : ∃ W0, w.alloc (tabO A0 n0 c0 A1 n1 c1 A2 n2 c2) = W0 := ⟨_, rfl⟩
  have hb0 : Below w.heap.size w W0 := by rw [← hW0]; exact (Below.refl _ _).alloc (Nat.le_refl _) _
  have X0 := Lib.hid (show HBox W0 w.heap.size (.slice A0 n0 c0) (.slice A1 n1 c1) (.slice A2 n2 c2) by rw [← hW0]; exact HBox.made _ _ _ _ _)
  have B0 := Lib.hid hb0
  have BG := Lib.hid (fun W (B : Below w.heap.size w W) => big_calls W (h0.below B) (h1.below B) (h2.below B))
  have S1 := Lib.hid (fun W (B : Below w.heap.size w W) => Blocks_calls v y f st n W (h0.below B) (h1.below B) (h2.below B) hv)
  have S2 := Lib.hid (fun W (B : Below w.heap.size w W) => Blocks_ref v y f st n W (h0.below B) (h1.below B) (h2.below B) hv)
  have S3 := Lib.hid (fun W (B : Below w.heap.size w W) => Alternating_calls v y f st n p W (h0.below B) (h1.below B) (h2.below B) hv)
  have S4 := Lib.hid (fun W (B : Below w.heap.size w W) => Alternating_ref v y f st n p W (h0.below B) (h1.below B) (h2.below B) hv)
  generalize madeV v ds ps rows y f st n 0 false = V1 at *
  generalize madeV v ds ps rows y f st n p true = V2 at *
  obtain ⟨⟨sf, ss, sl⟩, sx⟩ := V1
  obtain ⟨⟨cf, cs, cl⟩, cx⟩ := V2
  clear h0 h1 h2 hb0 hv by' bf bs bn bp
  by_cases q1 : 60 < n ∧ n ≤ 10000
  · obtain ⟨q1, q2⟩ := q1
    clear S1 S2 S3 S4 BG X0
    go_enter Try.func4, Try.ntmps4
    go_wp2_with fail
    refine (awake_calls _).mono ?_
    rintro e w1 ⟨rfl, b1⟩
    have B1 := Lib.hid (below_then B0.out b1 B0.out.size)
    clear b1
    go_wp2
    go_ret
    exact ⟨rfl, B1.out⟩
  rcases (show n ≤ 60 ∨ ¬ n ≤ 10000 by omega) with q2 | q2
  all_goals
    clear q1
    go_enter Try.func4, Try.ntmps4
    go_wp2_with fail
    refine (awake_calls _).mono ?_
    rintro e w1 ⟨rfl, b1⟩
    have B1 := Lib.hid (below_then B0.out b1 B0.out.size)
    have X1 := Lib.hid (X0.out.below b1 (by rw [← hW0]; simp))
    obtain ⟨m0, m1, m2⟩ : w1.cell? ⟨w.heap.size, 0, none⟩ = some (.slice A0 n0 c0) ∧ w1.cell? ⟨w.heap.size, 1, none⟩ = some (.slice A1 n1 c1) ∧ w1.cell? ⟨w.heap.size, 2, none⟩ = some (.slice A2 n2 c2) := ⟨X1.out.c0, X1.out.c1, X1.out.c2⟩
    clear b1
    go_wp2_with fail
    refine (BG.out _ B1.out).mono ?_
    rintro e w2 ⟨⟨b, rfl⟩, b2⟩
    have B2 := Lib.hid (below_then B1.out b2 B1.out.size)
    have X2 := Lib.hid (X1.out.below b2 X1.out.lt)
    clear b2 m0 m1 m2 X1 B1 X0
    obtain ⟨m0, m1, m2⟩ : w2.cell? ⟨w.heap.size, 0, none⟩ = some (.slice A0 n0 c0) ∧ w2.cell? ⟨w.heap.size, 1, none⟩ = some (.slice A1 n1 c1) ∧ w2.cell? ⟨w.heap.size, 2, none⟩ = some (.slice A2 n2 c2) := ⟨X2.out.c0, X2.out.c1, X2.out.c2⟩
    cases b
    case true =>
      go_wp2
      go_ret
      exact ⟨rfl, B2.out⟩
    go_wp2_with fail
    refine (S1.out _ B2.out).mono ?_
    rintro e w3' ⟨A3, n3', c3', rfl, i3, b3, -⟩
    obtain ⟨w3, hW3, k3, b3'⟩ := keep_ser i3 b3
    dsimp only at hW3
    have K3 := Lib.hid k3
    have X3 := Lib.hid (X2.out.below b3' X2.out.lt)
    have B3 := Lib.hid (below_then B2.out b3' B2.out.size)
    clear i3 b3 k3 b3' m0 m1 m2 X2 B2
    obtain ⟨m0, m1, m2⟩ : w3.cell? ⟨w.heap.size, 0, none⟩ = some (.slice A0 n0 c0) ∧ w3.cell? ⟨w.heap.size, 1, none⟩ = some (.slice A1 n1 c1) ∧ w3.cell? ⟨w.heap.size, 2, none⟩ = some (.slice A2 n2 c2) := ⟨X3.out.c0, X3.out.c1, X3.out.c2⟩
    go_wp2_with fail
    refine (S2.out _ B3.out).mono ?_
    rintro e w4' ⟨A4, n4', c4', rfl, i4, b4, -⟩
    obtain ⟨w4, hW4, k4, b4'⟩ := keep_ser i4 b4
    dsimp only at hW4
    have K4 := Lib.hid k4
    have K3 := Lib.hid (K3.out.below b4')
    have X4 := Lib.hid (X3.out.below b4' X3.out.lt)
    have B4 := Lib.hid (below_then B3.out b4' B3.out.size)
    clear i4 b4 k4 b4' m0 m1 m2 X3 B3 hW3
    obtain ⟨m0, m1, m2⟩ : w4.cell? ⟨w.heap.size, 0, none⟩ = some (.slice A0 n0 c0) ∧ w4.cell? ⟨w.heap.size, 1, none⟩ = some (.slice A1 n1 c1) ∧ w4.cell? ⟨w.heap.size, 2, none⟩ = some (.slice A2 n2 c2) := ⟨X4.out.c0, X4.out.c1, X4.out.c2⟩
    go_wp2_with fail
    refine (S3.out _ B4.out).mono ?_
    rintro e w5' ⟨A5, n5', c5', rfl, i5, b5, -⟩
    obtain ⟨w5, hW5, k5, b5'⟩ := keep_ser i5 b5
    dsimp only at hW5
    have K5 := Lib.hid k5
    have K3 := Lib.hid (K3.out.below b5')
    have K4 := Lib.hid (K4.out.below b5')
    have X5 := Lib.hid (X4.out.below b5' X4.out.lt)
    have B5 := Lib.hid (below_then B4.out b5' B4.out.size)
    clear i5 b5 k5 b5' m0 m1 m2 X4 B4 hW4
    obtain ⟨m0, m1, m2⟩ : w5.cell? ⟨w.heap.size, 0, none⟩ = some (.slice A0 n0 c0) ∧ w5.cell? ⟨w.heap.size, 1, none⟩ = some (.slice A1 n1 c1) ∧ w5.cell? ⟨w.heap.size, 2, none⟩ = some (.slice A2 n2 c2) := ⟨X5.out.c0, X5.out.c1, X5.out.c2⟩
    go_wp2_with fail
    refine (S4.out _ B5.out).mono ?_
    rintro e w6' ⟨A6, n6', c6', rfl, i6, b6, -⟩
    obtain ⟨w6, hW6, k6, b6'⟩ := keep_ser i6 b6
    dsimp only at hW6
    have K6 := Lib.hid k6
    have K3 := Lib.hid (K3.out.below b6')
    have K4 := Lib.hid (K4.out.below b6')
    have K5 := Lib.hid (K5.out.below b6')
    have X6 := Lib.hid (X5.out.below b6' X5.out.lt)
    have B6 := Lib.hid (below_then B5.out b6' B5.out.size)
    clear i6 b6 k6 b6' m0 m1 m2 X5 B5 hW5
    obtain ⟨m0, m1, m2⟩ : w6.cell? ⟨w.heap.size, 0, none⟩ = some (.slice A0 n0 c0) ∧ w6.cell? ⟨w.heap.size, 1, none⟩ = some (.slice A1 n1 c1) ∧ w6.cell? ⟨w.heap.size, 2, none⟩ = some (.slice A2 n2 c2) := ⟨X6.out.c0, X6.out.c1, X6.out.c2⟩
    clear S1 S2 S3 S4 m0 m1 m2
    have Q1 := Lib.hid (Same_ser sf ss w6 K3.out.i K4.out.i)
    obtain ⟨a0, a1, a2⟩ := K3.out.cells
    obtain ⟨d0, d1, d2⟩ := K4.out.cells
    dsimp only at a0 a1 a2 d0 d1 d2
    go_wp2_with fail
    refine (Q1.out).mono ?_
    rintro e w7 ⟨rfl, b7⟩
    have K5 := Lib.hid (K5.out.below b7)
    have K6 := Lib.hid (K6.out.below b7)
    have B7 := Lib.hid (below_then B6.out b7 B6.out.size)
    clear b7 a0 a1 a2 d0 d1 d2
    have Q2 := Lib.hid (Same_ser cf cs w7 K5.out.i K6.out.i)
    obtain ⟨a0, a1, a2⟩ := K5.out.cells
    obtain ⟨d0, d1, d2⟩ := K6.out.cells
    dsimp only at a0 a1 a2 d0 d1 d2
    go_wp2_with fail
    refine (Q2.out).mono ?_
    rintro e w8 ⟨rfl, b8⟩
    have B8 := Lib.hid (below_then B7.out b8 B7.out.size)
    clear b8 a0 a1 a2 d0 d1 d2
    go_wp2
    go_ret
    exact ⟨ret_b (by simp), B8.out⟩
end Go.Proofs.Ytfhikdgdckfalaa
