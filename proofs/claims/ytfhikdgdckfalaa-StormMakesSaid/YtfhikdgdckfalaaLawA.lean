/- The law StormMakes returns true. -/
import Derived.Test.YtfhikdgdckfalaaMB18
import Derived.Test.YtfhikdgdckfalaaMB13
namespace Go.Proofs.Ytfhikdgdckfalaa
open Go.RowKit
set_option linter.unusedVariables false

set_option maxHeartbeats 4000000 in
set_option maxRecDepth 100000 in
theorem Makes_calls (d f st n p : Int) (w : World) :
    Calls Try.prog 3 #[.int .i64 d, .int .i64 f, .int .i64 st, .int .i64 n, .int .i64 p] w fun e w' => e = .returned (.bool true) ∧ Below w.heap.size w w' := by
  by_cases hn : 100 < n ∧ n ≤ 10000
  · obtain ⟨h1, h2⟩ := hn
    go_enter Try.func3, Try.ntmps3
    go_wp2_with fail
    refine (awake_calls _).mono ?_
    rintro e w1 ⟨rfl, b1⟩
    have B1 := Lib.hid b1
    clear b1
    go_wp2
    go_ret
    exact ⟨rfl, B1.out⟩
  · have U1 := Lib.hid (fun W => Uniform_calls d f st n W)
    have U2 := Lib.hid (fun W => Uniform_ref d f st n W)
    have T1 := Lib.hid (fun W => Triangle_calls d f st n p W)
    have T2 := Lib.hid (fun W => Triangle_ref d f st n p W)
    generalize uniV d f st n = U at *
    generalize triV d f st n p = T at *
    obtain ⟨⟨uf, us, ul⟩, ux⟩ := U
    obtain ⟨⟨tf, ts, tl⟩, tx⟩ := T
    have hc : Hid (¬ 100 < n ∨ (100 < n ∧ ¬ n ≤ 10000)) := Lib.hid (by omega)
    clear hn
    rcases hc.out with h1 | ⟨h1, h2⟩ <;> (
      clear hc
      go_enter Try.func3, Try.ntmps3
      go_wp2_with fail
      refine (awake_calls _).mono ?_
      rintro e w1 ⟨rfl, b1⟩
      have B1 := Lib.hid b1
      clear b1
      go_wp2_with fail
      refine (U1.out _).mono ?_
      rintro e w2 ⟨A2, n2, c2, rfl, i2, b2, -⟩
      obtain ⟨W2, hW2, k2, b2'⟩ := keep_ser i2 b2
      dsimp only at hW2
      have K2 := Lib.hid k2
      have B2 := Lib.hid (below_then B1.out b2' B1.out.size)
      clear i2 b2 k2 b2'
      go_wp2_with fail
      refine (U2.out _).mono ?_
      rintro e w3 ⟨A3, n3, c3, rfl, i3, b3, -⟩
      obtain ⟨W3, hW3, k3, b3'⟩ := keep_ser i3 b3
      dsimp only at hW3
      have K3 := Lib.hid k3
      have K2 := Lib.hid (K2.out.below b3')
      have B3 := Lib.hid (below_then B2.out b3' B2.out.size)
      clear i3 b3 k3 b3' hW2
      go_wp2_with fail
      refine (T1.out _).mono ?_
      rintro e w4 ⟨A4, n4, c4, rfl, i4, b4, -⟩
      obtain ⟨W4, hW4, k4, b4'⟩ := keep_ser i4 b4
      dsimp only at hW4
      have K4 := Lib.hid k4
      have K2 := Lib.hid (K2.out.below b4')
      have K3 := Lib.hid (K3.out.below b4')
      have B4 := Lib.hid (below_then B3.out b4' B3.out.size)
      clear i4 b4 k4 b4' hW3
      go_wp2_with fail
      refine (T2.out _).mono ?_
      rintro e w5 ⟨A5, n5, c5, rfl, i5, b5, -⟩
      obtain ⟨W5, hW5, k5, b5'⟩ := keep_ser i5 b5
      dsimp only at hW5
      have K5 := Lib.hid k5
      have K2 := Lib.hid (K2.out.below b5')
      have K3 := Lib.hid (K3.out.below b5')
      have K4 := Lib.hid (K4.out.below b5')
      have B5 := Lib.hid (below_then B4.out b5' B4.out.size)
      clear i5 b5 k5 b5' hW4
      have S1 := Lib.hid (Same_ser uf us W5 K2.out.i K3.out.i)
      obtain ⟨a0, a1, a2⟩ := K2.out.cells
      obtain ⟨a3, a4, a5⟩ := K3.out.cells
      dsimp only at a0 a1 a2 a3 a4 a5
      go_wp2_with fail
      refine (S1.out).mono ?_
      rintro e w6 ⟨rfl, b6⟩
      have K4 := Lib.hid (K4.out.below b6)
      have K5 := Lib.hid (K5.out.below b6)
      have S2 := Lib.hid (Same_ser tf ts w6 K4.out.i K5.out.i)
      obtain ⟨d0, d1, d2⟩ := K4.out.cells
      obtain ⟨d3, d4, d5⟩ := K5.out.cells
      have B6 := Lib.hid (below_then B5.out b6 B5.out.size)
      dsimp only at d0 d1 d2 d3 d4 d5
      clear b6 a0 a1 a2 a3 a4 a5
      go_wp2_with fail
      refine (S2.out).mono ?_
      rintro e w7 ⟨rfl, b7⟩
      have B7 := Lib.hid (below_then B6.out b7 B6.out.size)
      clear b7
      go_wp2
      go_ret
      exact ⟨ret_b (by simp), B7.out⟩)
end Go.Proofs.Ytfhikdgdckfalaa
