/- The laws HydrographConvolves, HydrographUnits return true. -/
import Derived.Test.YtlkocedhhdknoaaAwake
namespace Go.Proofs.Ytlkocedhhdknoaa
open Go.RowKit
set_option linter.unusedVariables false

set_option maxHeartbeats 1000000 in
theorem Convolves_calls {A A' : Option Addr} {n c n' c' : Nat} {vs us : List Int} (w : World) (h : Ints w A n c vs) (h' : Ints w A' n' c' us) :
    Calls Try.prog 4 #[.slice A n c, .slice A' n' c'] w fun e w' => e = .returned (.bool true) ∧ Below w.heap.size w w' := by
  have H := Lib.hid h
  have H' := Lib.hid h'
  clear h h'
  go_enter Try.func4, Try.ntmps4
  go_wp2_with fail
  refine (awake_calls _).mono ?_
  rintro e w1 ⟨rfl, b1⟩
  have m1 := many_calls 60 10000 (by omega) (by omega) w1 (H.out.below b1)
  have m2 := many_calls 40 1000 (by omega) (by omega) w1 (H'.out.below b1)
  have cv := Convolve_calls w1 (H.out.below b1) (H'.out.below b1)
  have cr := fun w2 (b : Below w1.heap.size w1 w2) => Convolve_ref w2 ((H.out.below b1).below b) ((H'.out.below b1).below b)
  generalize (decide ((60 : Int) < n) && decide ((n : Int) ≤ 10000) || decide ((10000 : Int) + 100 < n)) = p at *
  generalize (decide ((40 : Int) < n') && decide ((n' : Int) ≤ 1000) || decide ((1000 : Int) + 100 < n')) = q at *
  generalize ConvV vs us = V at *
  obtain ⟨l, x⟩ := V
  have CV := Lib.hid cv
  have CR := Lib.hid cr
  have B1 := Lib.hid b1
  have M1 := Lib.hid m1
  have M2 := Lib.hid m2
  clear cv cr b1 m1 m2
  cases p
  · go_wp2_with fail
    refine M1.out.mono ?_
    rintro e w2 ⟨rfl, rfl⟩
    cases q
    · go_wp2_with fail
      refine M2.out.mono ?_
      rintro e w2 ⟨rfl, rfl⟩
      go_wp2_with fail
      refine CV.out.mono ?_
      rintro e w2 ⟨A1, n1, c1, rfl, i1, b2, -⟩
      have CR1 := Lib.hid (CR.out w2 b2)
      have I1 := Lib.hid i1
      have B2 := Lib.hid (below_then B1.out b2 B1.out.size)
      clear i1 b2 CR
      go_wp2_with fail
      refine CR1.out.mono ?_
      rintro e w3 ⟨A2, n2, c2, rfl, i2, b3, -⟩
      have eq := equal_calls w3 (I1.out.below b3) i2
      rw [decide_eq_true rfl] at eq
      have EQ := Lib.hid eq
      have B3 := Lib.hid (below_then B2.out b3 B2.out.size)
      clear eq i2 b3
      go_wp2_with fail
      refine EQ.out.mono ?_
      rintro e w4 ⟨rfl, b4⟩
      have B4 := Lib.hid (below_then B3.out b4 B3.out.size)
      clear b4
      go_wp2
      go_ret
      exact ⟨rfl, B4.out⟩
    · go_wp2_with fail
      refine M2.out.mono ?_
      rintro e w2 ⟨rfl, rfl⟩
      go_wp2
      go_ret
      exact ⟨rfl, B1.out⟩
  · go_wp2_with fail
    refine M1.out.mono ?_
    rintro e w2 ⟨rfl, rfl⟩
    go_wp2
    go_ret
    exact ⟨rfl, B1.out⟩
end Go.Proofs.Ytlkocedhhdknoaa
