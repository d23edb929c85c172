/- The law ConditionCompares returns true. -/
import Derived.Test.YtihaabdgligbbaaAwake
import Derived.Test.YtihaabdgligbbaaRepair
namespace Go.Proofs.Ytihaabdgligbbaa
open Go.RowKit
set_option linter.unusedVariables false

set_option maxHeartbeats 1000000 in
theorem Compares_calls {A A' : Option Addr} {n c n' c' : Nat} {a b : List Int} (f t m : Int) (w : World) (h : Ints w A n c a) (h' : Ints w A' n' c' b) :
    Calls Try.prog 7 #[.slice A n c, .slice A' n' c', .int .i64 f, .int .i64 t, .int .i64 m] w fun e w' => e = .returned (.bool true) ∧ Below w.heap.size w w' := by
  have hcap := h.cap
  have hmax := h.max
  have hcap' := h'.cap
  have hmax' := h'.max
  have e1 := fun W (I : Ints W A n c a) (I' : Ints W A' n' c' b) => Worse_calls W I I'
  have e2 := fun W (I : Ints W A n c a) (I' : Ints W A' n' c' b) => Worse_ref W I I'
  have d1 := fun W (I : Ints W A n c a) => Repair_calls f t m W I
  have d2 := fun W (I : Ints W A n c a) => Repair_ref f t m W I
  generalize WorseV a b = V at *
  generalize RepV a f t m = D at *
  obtain ⟨Dl, De⟩ := D
  obtain ⟨Vb, Ve⟩ := V
  have H := Lib.hid h
  have H' := Lib.hid h'
  have E1 := Lib.hid e1
  have E2 := Lib.hid e2
  have D1 := Lib.hid d1
  have D2 := Lib.hid d2
  clear h h' e1 e2 d1 d2
  by_cases g : (20 : Int) < n
  · go_enter Try.func7, Try.ntmps7
    go_wp2_with fail
    refine (awake_calls _).mono ?_
    rintro e w1 ⟨rfl, b1⟩
    have B1 := Lib.hid b1
    clear b1
    go_wp2
    go_ret
    exact ⟨rfl, B1.out⟩
  by_cases g' : (20 : Int) < n'
  · go_enter Try.func7, Try.ntmps7
    go_wp2_with fail
    refine (awake_calls _).mono ?_
    rintro e w1 ⟨rfl, b1⟩
    have B1 := Lib.hid b1
    clear b1
    go_wp2
    go_ret
    exact ⟨rfl, B1.out⟩
  go_enter Try.func7, Try.ntmps7
  go_wp2_with fail
  refine (awake_calls _).mono ?_
  rintro e w1 ⟨rfl, b1⟩
  have T1 := Lib.hid (H.out.below b1)
  have I1 := Lib.hid (H'.out.below b1)
  have B1 := Lib.hid b1
  clear b1
  go_wp2_with fail
  refine (E1.out _ T1.out I1.out).mono ?_
  rintro e w2 ⟨rfl, b2⟩
  have T2 := Lib.hid (T1.out.below b2)
  have I2 := Lib.hid (I1.out.below b2)
  have B2 := Lib.hid (below_then B1.out b2 B1.out.size)
  clear b2
  go_wp2_with fail
  refine (D1.out _ T2.out).mono ?_
  rintro e w3 ⟨A3, n3, c3, rfl, i3, b3, -⟩
  have T3 := Lib.hid (T2.out.below b3)
  have I3 := Lib.hid (I2.out.below b3)
  have J3 := Lib.hid i3
  have B3 := Lib.hid (below_then B2.out b3 B2.out.size)
  clear b3 i3
  go_wp2_with fail
  refine (E2.out _ T3.out I3.out).mono ?_
  rintro e w4 ⟨rfl, b4⟩
  have T4 := Lib.hid (T3.out.below b4)
  have J4 := Lib.hid (J3.out.below b4)
  have B4 := Lib.hid (below_then B3.out b4 B3.out.size)
  clear b4
  go_wp2_with fail
  refine (D2.out _ T4.out).mono ?_
  rintro e w5 ⟨A5, n5, c5, rfl, i5, b5, -⟩
  have B5 := Lib.hid (below_then B4.out b5 B4.out.size)
  have eq := equal_calls w5 (J4.out.below b5) i5
  rw [decide_eq_true rfl] at eq
  have EQ := Lib.hid eq
  clear b5 i5 eq
  go_wp2_with fail
  refine (EQ.out).mono ?_
  rintro e w6 ⟨rfl, b6⟩
  have B6 := Lib.hid (below_then B5.out b6 B5.out.size)
  clear b6
  go_wp2
  go_ret
  exact ⟨ret_b (by simp), B6.out⟩
end Go.Proofs.Ytihaabdgligbbaa
