/- The chapter's examples hold. -/
import Derived.Test.YtihaabdgligbbaaDueAll
import Derived.Test.YtihaabdgligbbaaExpectR
import Derived.Test.YtihaabdgligbbaaLarge
import Derived.Test.YtihaabdgligbbaaPair
namespace Go.Proofs.Ytihaabdgligbbaa
open Go.RowKit
set_option linter.unusedVariables false

theorem exStep : StepV exT [1000, 0, 0] = ([900, 100, 0], 0) := by decide +kernel
theorem exAfter : AfterV exT [1000, 0, 0] 2 = ([810, 170, 20], 0) := by decide +kernel
theorem exExp : ExpV exT [1000, 0, 0] 1 = ((11, 10), 0) := by decide +kernel
theorem exDue : DueV exT [1000, 0, 0] 2 190 = (2, 0) := by decide +kernel
abbrev exO : Obj := .cells #[.int .i64 1000, .int .i64 0, .int .i64 0] 3
theorem exIn (w : World) : Ints (w.alloc exO) (some ⟨w.heap.size, 0, none⟩) 3 3 [1000, 0, 0] := Ints.lit w [1000, 0, 0] (by decide) (by decide)

set_option maxHeartbeats 2000000 in
set_option maxRecDepth 100000 in
theorem awake_calls (w : World) : Calls Try.prog 11 #[] w fun e w' => e = .returned (.bool true) ∧ Below w.heap.size w w' := by
  have c1 := fun W A n c A' n' c' (h : Tab W A n c exT) (h' : Ints W A' n' c' [1000, 0, 0]) => Step_calls W h h'
  rw [exStep] at c1
  have C1 := Lib.hid c1
  have c2 := fun W A n c A' n' c' (h : Tab W A n c exT) (h' : Ints W A' n' c' [1000, 0, 0]) => After_calls 2 W h h'
  rw [exAfter] at c2
  have C2 := Lib.hid c2
  have c3 := fun W A n c A' n' c' (h : Tab W A n c exT) (h' : Ints W A' n' c' [1000, 0, 0]) => Expected_calls 1 W h h'
  rw [exExp] at c3
  have C3 := Lib.hid c3
  have c4 := fun W A n c A' n' c' (h : Tab W A n c exT) (h' : Ints W A' n' c' [1000, 0, 0]) => Due_calls 2 190 W h h'
  rw [exDue] at c4
  have C4 := Lib.hid c4
  clear c1 c2 c3 c4
  go_enter Try.func11, Try.ntmps11
  go_wp2_with fail
  refine (example_calls _).mono ?_
  rintro e w1 ⟨A1, rfl, t1, b1⟩
  have K1 := Lib.hid (C1.out _ _ _ _ _ _ _ (t1.alloc exO) (exIn w1))
  have B1 := Lib.hid b1
  clear t1 b1
  go_wp2_with fail
  refine (K1.out).mono ?_
  rintro e w2 ⟨A2, n2, c2, rfl, i2, b2, -⟩
  have I2 := Lib.hid i2
  have hn2 := i2.len
  have N2 := Lib.hid hn2
  have B2 := Lib.hid (bel_alloc B1.out b2 B1.out.size)
  clear i2 b2 hn2 B1 K1
  go_wp2_with fail
  refine (example_calls _).mono ?_
  rintro e w3 ⟨A3, rfl, t3, b3⟩
  have I3 := Lib.hid (I2.out.below b3)
  have K3 := Lib.hid (C2.out _ _ _ _ _ _ _ (t3.alloc exO) (exIn w3))
  have B3 := Lib.hid (below_then B2.out b3 B2.out.size)
  clear t3 b3 I2 B2
  go_wp2_with fail
  refine (K3.out).mono ?_
  rintro e w4 ⟨A4, n4, c4, rfl, i4, b4, -⟩
  have I4 := Lib.hid ((I3.out.alloc exO).below b4)
  have J4 := Lib.hid i4
  have B4 := Lib.hid (bel_alloc B3.out b4 B3.out.size)
  clear i4 b4 I3 B3 K3
  go_wp2_with fail
  refine (example_calls _).mono ?_
  rintro e w5 ⟨A5, rfl, t5, b5⟩
  have I5 := Lib.hid (I4.out.below b5)
  have J5 := Lib.hid (J4.out.below b5)
  have K5 := Lib.hid (C3.out _ _ _ _ _ _ _ (t5.alloc exO) (exIn w5))
  have B5 := Lib.hid (below_then B4.out b5 B4.out.size)
  clear t5 b5 I4 J4 B4
  go_wp2_with fail
  refine (K5.out).mono ?_
  rintro e w6 ⟨rfl, b6⟩
  have I6 := Lib.hid ((I5.out.alloc exO).below b6)
  have J6 := Lib.hid ((J5.out.alloc exO).below b6)
  have B6 := Lib.hid (bel_alloc B5.out b6 B5.out.size)
  clear b6 I5 J5 B5 K5
  go_wp2_with fail
  refine (example_calls _).mono ?_
  rintro e w7 ⟨A7, rfl, t7, b7⟩
  have P7 := Lib.hid ((Pair.made w6 11 10).below b7)
  have I7 := Lib.hid ((I6.out.alloc _).below b7)
  have J7 := Lib.hid ((J6.out.alloc _).below b7)
  have K7 := Lib.hid (C4.out _ _ _ _ _ _ _ (t7.alloc exO) (exIn w7))
  have B7 := Lib.hid (bel_alloc B6.out b7 B6.out.size)
  clear t7 b7 I6 J6 B6
  go_wp2_with fail
  refine (K7.out).mono ?_
  rintro e w8 ⟨rfl, b8⟩
  have P8 := Lib.hid ((P7.out.alloc exO).below b8)
  have I8 := Lib.hid ((I7.out.alloc exO).below b8)
  have J8 := Lib.hid ((J7.out.alloc exO).below b8)
  have B8 := Lib.hid (bel_alloc B7.out b8 B7.out.size)
  clear b8 I7 J7 B7 K7 P7
  have e1 := equal_calls _ (I8.out.alloc (.cells #[.int .i64 900, .int .i64 100, .int .i64 0] 3)) (Ints.lit w8 [900, 100, 0] (by decide) (by decide))
  rw [decide_eq_true rfl] at e1
  have E1 := Lib.hid e1
  clear e1
  go_wp2_with fail
  refine (E1.out).mono ?_
  rintro e w9 ⟨rfl, b9⟩
  have P9 := Lib.hid ((P8.out.alloc _).below b9)
  have J9 := Lib.hid ((J8.out.alloc _).below b9)
  have B9 := Lib.hid (bel_alloc B8.out b9 B8.out.size)
  clear b9 I8 J8 B8 E1 P8
  have e2 := equal_calls _ (J9.out.alloc (.cells #[.int .i64 810, .int .i64 170, .int .i64 20] 3)) (Ints.lit w9 [810, 170, 20] (by decide) (by decide))
  rw [decide_eq_true rfl] at e2
  have E2 := Lib.hid e2
  clear e2
  go_wp2_with fail
  refine (E2.out).mono ?_
  rintro e w10 ⟨rfl, b10⟩
  have P10 := (P9.out.alloc _).below b10
  have B10 := Lib.hid (bel_alloc B9.out b10 B9.out.size)
  obtain ⟨x0, x1, xl⟩ := P10
  clear b10 J9 B9 E2 P9
  go_wp2
  go_ret
  exact ⟨rfl, B10.out⟩
end Go.Proofs.Ytihaabdgligbbaa
