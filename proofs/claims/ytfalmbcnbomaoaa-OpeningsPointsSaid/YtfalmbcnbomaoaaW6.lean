/- the chapter's examples; the law OpeningsFlows returns true -/
import Derived.Test.YtfalmbcnbomaoaaW5
namespace Go.Proofs.Ytfalmbcnbomaoaa
open Go.Proofs.Ytfalmbcnbomaoaa.DivLaw Go.Proofs.Ytfalmbcnbomaoaa.Open Go.RowKit
set_option linter.unusedVariables false

theorem aw1 : WeirV 1000 100 = (53758, 0) := by decide +kernel
theorem aw2 : OrificeV 10000 1000 = (26576, 0) := by decide +kernel
theorem aw3 : GateV 3 0 100 200 500 1000 0 = (26576, 0) := by decide +kernel

set_option maxHeartbeats 1000000 in
theorem awake_calls (w : World) : Calls Try.prog 11 #[] w fun e w' => e = .returned (.bool true) ∧ Below w.heap.size w w' := by
  have a := fun W => Weir_calls 1000 100 W
  have b := fun W => Orifice_calls 10000 1000 W
  have c := fun n0 n1 n2 sc W => Gate_calls n0 n1 n2 sc 3 0 0 0 100 200 none 0 0 500 1000 0 W
  rw [aw1] at a
  rw [aw2] at b
  rw [aw3] at c
  have A := Lib.hid a
  have B := Lib.hid b
  have C := Lib.hid c
  clear a b c
  go_enter Try.func11, Try.ntmps11
  go_wp2_with fail
  refine (A.out _).mono ?_
  rintro e w1 ⟨rfl, hb1⟩
  go_wp2_with fail
  refine (B.out _).mono ?_
  rintro e w2 ⟨rfl, hb2⟩
  go_wp2_with fail
  refine (C.out _ _ _ _ _).mono ?_
  rintro e w3 ⟨rfl, hb3⟩
  go_wp2_with fail
  go_returns
  exact ⟨rfl, below_then (below_then hb1 hb2) hb3⟩

set_option maxHeartbeats 1000000 in
theorem Flows_calls (width area head : Int) (w : World) : Calls Try.prog 3 #[.int .i64 width, .int .i64 area, .int .i64 head] w fun e w' => e = .returned (.bool true) ∧ Below w.heap.size w w' := by
  have a := fun W => Weir_calls width head W
  have b := fun W => Weir_ref width head W
  have c := fun W => Orifice_calls area head W
  have d := fun W => Orifice_ref area head W
  generalize WeirV width head = x at *
  generalize OrificeV area head = y at *
  obtain ⟨x1, x2⟩ := x
  obtain ⟨y1, y2⟩ := y
  have A := Lib.hid a
  have B := Lib.hid b
  have C := Lib.hid c
  have D := Lib.hid d
  clear a b c d
  go_enter Try.func3, Try.ntmps3
  go_wp2_with fail
  refine (awake_calls _).mono ?_
  rintro e w1 ⟨rfl, hb1⟩
  go_wp2_with fail
  refine (A.out _).mono ?_
  rintro e w2 ⟨rfl, hb2⟩
  go_wp2_with fail
  refine (B.out _).mono ?_
  rintro e w3 ⟨rfl, hb3⟩
  go_wp2_with fail
  refine (C.out _).mono ?_
  rintro e w4 ⟨rfl, hb4⟩
  go_wp2_with fail
  refine (D.out _).mono ?_
  rintro e w5 ⟨rfl, hb5⟩
  go_wp2_with fail
  go_returns
  exact ⟨rfl, below_then (below_then (below_then (below_then hb1 hb2) hb3) hb4) hb5⟩
end Go.Proofs.Ytfalmbcnbomaoaa
