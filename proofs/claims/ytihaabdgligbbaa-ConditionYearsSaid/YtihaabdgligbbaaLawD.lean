/- The law ConditionYears returns true. -/
import Derived.Test.YtihaabdgligbbaaAwake
import Derived.Test.YtihaabdgligbbaaPowerR
namespace Go.Proofs.Ytihaabdgligbbaa
open Go.RowKit
set_option linter.unusedVariables false

set_option maxHeartbeats 2000000 in
set_option maxRecDepth 100000 in
theorem Years_calls {A A' : Option Addr} {n c n' c' : Nat} {ts : List (List Int)} {l : List Int} (y : Int) (w : World) (h : Tab w A n c ts) (h' : Ints w A' n' c' l) :
    Calls Try.prog 5 #[.slice A n c, .slice A' n' c', .int .i64 y] w fun e w' => e = .returned (.bool true) ∧ Below w.heap.size w w' := by
  have hcap := h.cap
  have hmax := h.max
  have hcap' := h'.cap
  have hmax' := h'.max
  have e1 := fun W (I : Tab W A n c ts) (I' : Ints W A' n' c' l) => Step_calls W I I'
  have e2 := fun W (I : Tab W A n c ts) (I' : Ints W A' n' c' l) => Step_ref W I I'
  have d1 := fun W (I : Tab W A n c ts) (I' : Ints W A' n' c' l) => After_calls y W I I'
  have d2 := fun W (I : Tab W A n c ts) (I' : Ints W A' n' c' l) => After_ref y W I I'
  have p1 := fun W (I : Tab W A n c ts) => Power_calls y W I
  have p2 := fun W (I : Tab W A n c ts) => Power_ref y W I
  have lg := fun W (I : Tab W A n c ts) => large_calls W I
  generalize StepV ts l = V at *
  generalize AfterV ts l y = D at *
  generalize PowV ts y = P at *
  generalize largeB ts = q at *
  obtain ⟨Vl, Ve⟩ := V
  obtain ⟨Dl, De⟩ := D
  obtain ⟨Pl, Pe⟩ := P
  have H := Lib.hid h
  have H' := Lib.hid h'
  have E1 := Lib.hid e1
  have E2 := Lib.hid e2
  have D1 := Lib.hid d1
  have D2 := Lib.hid d2
  have P1 := Lib.hid p1
  have P2 := Lib.hid p2
  have LG := Lib.hid lg
  clear h h' e1 e2 d1 d2 p1 p2 lg
  go_enter Try.func5, Try.ntmps5
  go_wp2_with fail
  refine (awake_calls _).mono ?_
  rintro e w1 ⟨rfl, b1⟩
  have T1 := Lib.hid (H.out.below b1)
  have I1 := Lib.hid (H'.out.below b1)
  have B1 := Lib.hid b1
  clear b1
  cases q
  · by_cases g : (20 : Int) < n'
    · go_wp2_with fail
      refine (LG.out _ T1.out).mono ?_
      rintro e w2 ⟨rfl, rfl⟩
      go_wp2
      go_ret
      exact ⟨rfl, B1.out⟩
    · go_wp2_with fail
      refine (LG.out _ T1.out).mono ?_
      rintro e w2 ⟨rfl, rfl⟩
      go_wp2_with fail
      refine (E1.out _ T1.out I1.out).mono ?_
      rintro e w2 ⟨A2, n2, c2, rfl, i2, b2, -⟩
      have T2 := Lib.hid (T1.out.below b2)
      have I2 := Lib.hid (I1.out.below b2)
      have R2 := Lib.hid i2
      have B2 := Lib.hid (below_then B1.out b2 B1.out.size)
      clear b2 i2 T1 I1 B1
      go_wp2_with fail
      refine (D1.out _ T2.out I2.out).mono ?_
      rintro e w3 ⟨A3, n3, c3, rfl, i3, b3, -⟩
      have T3 := Lib.hid (T2.out.below b3)
      have I3 := Lib.hid (I2.out.below b3)
      have R3 := Lib.hid (R2.out.below b3)
      have S3 := Lib.hid i3
      have B3 := Lib.hid (below_then B2.out b3 B2.out.size)
      clear b3 i3 T2 I2 B2 R2
      go_wp2_with fail
      refine (P1.out _ T3.out).mono ?_
      rintro e w4 ⟨A4, n4, c4, rfl, i4, b4⟩
      have T4 := Lib.hid (T3.out.below b4)
      have I4 := Lib.hid (I3.out.below b4)
      have R4 := Lib.hid (R3.out.below b4)
      have S4 := Lib.hid (S3.out.below b4)
      have U4 := Lib.hid i4
      have B4 := Lib.hid (below_then B3.out b4 B3.out.size)
      clear b4 i4 T3 I3 B3 R3 S3
      go_wp2_with fail
      refine (E2.out _ T4.out I4.out).mono ?_
      rintro e w5 ⟨A5, n5, c5, rfl, i5, b5, -⟩
      have T5 := Lib.hid (T4.out.below b5)
      have I5 := Lib.hid (I4.out.below b5)
      have R5 := Lib.hid (R4.out.below b5)
      have S5 := Lib.hid (S4.out.below b5)
      have U5 := Lib.hid (U4.out.below b5)
      have X5 := Lib.hid i5
      have B5 := Lib.hid (below_then B4.out b5 B4.out.size)
      clear b5 i5 T4 I4 B4 R4 S4 U4
      go_wp2_with fail
      refine (D2.out _ T5.out I5.out).mono ?_
      rintro e w6 ⟨A6, n6, c6, rfl, i6, b6, -⟩
      have T6 := Lib.hid (T5.out.below b6)
      have R6 := Lib.hid (R5.out.below b6)
      have S6 := Lib.hid (S5.out.below b6)
      have U6 := Lib.hid (U5.out.below b6)
      have X6 := Lib.hid (X5.out.below b6)
      have Y6 := Lib.hid i6
      have B6 := Lib.hid (below_then B5.out b6 B5.out.size)
      clear b6 i6 T5 I5 B5 R5 S5 U5 X5
      go_wp2_with fail
      refine (P2.out _ T6.out).mono ?_
      rintro e w7 ⟨A7, n7, c7, rfl, i7, b7⟩
      have R7 := R6.out.below b7
      have S7 := Lib.hid (S6.out.below b7)
      have U7 := Lib.hid (U6.out.below b7)
      have X7 := X6.out.below b7
      have Y7 := Lib.hid (Y6.out.below b7)
      have Z7 := Lib.hid i7
      have B7 := Lib.hid (below_then B6.out b7 B6.out.size)
      have q1 := equal_calls w7 R7 X7
      rw [decide_eq_true rfl] at q1
      have Q1 := Lib.hid q1
      clear b7 i7 q1 R7 X7 T6 R6 S6 U6 X6 Y6 B6
      go_wp2_with fail
      refine (Q1.out).mono ?_
      rintro e w8 ⟨rfl, b8⟩
      have U8 := Lib.hid (U7.out.below b8)
      have Z8 := Lib.hid (Z7.out.below b8)
      have B8 := Lib.hid (below_then B7.out b8 B7.out.size)
      have q2 := equal_calls w8 (S7.out.below b8) (Y7.out.below b8)
      rw [decide_eq_true rfl] at q2
      have Q2 := Lib.hid q2
      clear b8 q2 B7 U7 Z7 S7 Y7 Q1
      go_wp2_with fail
      refine (Q2.out).mono ?_
      rintro e w9 ⟨rfl, b9⟩
      have B9 := Lib.hid (below_then B8.out b9 B8.out.size)
      have Q3 := Lib.hid (Same_same w9 (U8.out.below b9) (Z8.out.below b9))
      clear b9 B8 U8 Z8 Q2
      go_wp2_with fail
      refine (Q3.out).mono ?_
      rintro e w10 ⟨rfl, b10⟩
      have B10 := Lib.hid (below_then B9.out b10 B9.out.size)
      clear b10
      go_wp2
      go_ret
      exact ⟨ret_b (by simp), B10.out⟩
  · go_wp2_with fail
    refine (LG.out _ T1.out).mono ?_
    rintro e w2 ⟨rfl, rfl⟩
    go_wp2
    go_ret
    exact ⟨rfl, B1.out⟩
end Go.Proofs.Ytihaabdgligbbaa
