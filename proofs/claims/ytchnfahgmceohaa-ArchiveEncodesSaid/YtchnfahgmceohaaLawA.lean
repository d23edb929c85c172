/- The law ArchiveEncodes returns true. -/
import Derived.Test.YtchnfahgmceohaaAwake
import Derived.Test.YtchnfahgmceohaaFindS
namespace Go.Proofs.Ytchnfahgmceohaa
open Go.RowKit
set_option linter.unusedVariables false

set_option maxHeartbeats 1000000 in
theorem Encodes_calls {A : Option Addr} {n c : Nat} {ss : List SerD} (w : World) (h : Sers w A n c ss) :
    Calls Try.prog 3 #[.slice A n c] w fun e w' => e = .returned (.bool true) ∧ Below w.heap.size w w' := by
  have lg := fun W (I : Sers W A n c ss) => large_calls W I
  have H := Lib.hid h
  cases hq : largeB ss
  · rw [hq] at lg
    have hf := few_of hq
    have e1 := fun W (I : Sers W A n c ss) => Encode_calls W I hf
    have e2 := fun W (I : Sers W A n c ss) => Encode_ref W I hf
    generalize EncV ss = V at *
    obtain ⟨bs, x⟩ := V
    have LG := Lib.hid lg
    have E1 := Lib.hid e1
    have E2 := Lib.hid e2
    clear h lg hq hf e1 e2
    go_enter Try.func3, Try.ntmps3
    go_wp2_with fail
    refine (awake_calls _).mono ?_
    rintro e w1 ⟨rfl, b1⟩
    have I1 := Lib.hid (H.out.below b1)
    have B1 := Lib.hid b1
    clear b1
    go_wp2_with fail
    refine (LG.out _ I1.out).mono ?_
    rintro e w2 ⟨rfl, b2⟩
    have I2 := Lib.hid (I1.out.below b2)
    have B2 := Lib.hid (below_then B1.out b2 B1.out.size)
    clear b2
    go_wp2_with fail
    refine (E1.out _ I2.out).mono ?_
    rintro e w3 ⟨v3, rfl, o3, b3⟩
    obtain ⟨A3, n3, c3, rfl, y3, -⟩ := o3.ints
    have I3 := Lib.hid (I2.out.below b3)
    have Y3 := Lib.hid y3
    have B3 := Lib.hid (below_then B2.out b3 B2.out.size)
    clear b3 o3 y3
    go_wp2_with fail
    refine (E2.out _ I3.out).mono ?_
    rintro e w4 ⟨v4, rfl, o4, b4⟩
    obtain ⟨A4, n4, c4, rfl, y4, -⟩ := o4.ints
    have EQ := Lib.hid (equalB_same w4 (Y3.out.below b4) y4)
    have B4 := Lib.hid (below_then B3.out b4 B3.out.size)
    clear b4 o4 y4
    go_wp2_with fail
    refine (EQ.out).mono ?_
    rintro e w' ⟨rfl, rfl⟩
    go_wp2
    go_ret
    exact ⟨ret_b (by simp), B4.out⟩
  · rw [hq] at lg
    have LG := Lib.hid lg
    clear h lg hq
    go_enter Try.func3, Try.ntmps3
    go_wp2_with fail
    refine (awake_calls _).mono ?_
    rintro e w1 ⟨rfl, b1⟩
    have I1 := Lib.hid (H.out.below b1)
    have B1 := Lib.hid b1
    clear b1
    go_wp2_with fail
    refine (LG.out _ I1.out).mono ?_
    rintro e w2 ⟨rfl, b2⟩
    have B2 := Lib.hid (below_then B1.out b2 B1.out.size)
    clear b2
    go_wp2
    go_ret
    exact ⟨rfl, B2.out⟩
end Go.Proofs.Ytchnfahgmceohaa
