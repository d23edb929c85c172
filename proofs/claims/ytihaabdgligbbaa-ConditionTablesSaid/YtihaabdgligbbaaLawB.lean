/- The law ConditionTables returns true. -/
import Derived.Test.YtihaabdgligbbaaAwake
import Derived.Test.YtihaabdgligbbaaMono
namespace Go.Proofs.Ytihaabdgligbbaa
open Go.RowKit
set_option linter.unusedVariables false

set_option maxHeartbeats 1000000 in
theorem Tables_calls {A : Option Addr} {n c : Nat} {ts : List (List Int)} (w : World) (h : Tab w A n c ts) :
    Calls Try.prog 6 #[.slice A n c] w fun e w' => e = .returned (.bool true) ∧ Below w.heap.size w w' := by
  have hcap := h.cap
  have hmax := h.max
  have lg := fun W (I : Tab W A n c ts) => large_calls W I
  have mo := fun W (I : Tab W A n c ts) => Monotone_calls W I
  have vr := fun W (I : Tab W A n c ts) => Valid_ref W I
  have vp := fun W (I : Tab W A n c ts) => Valid_calls W I
  have mr := fun W (I : Tab W A n c ts) => Monotone_ref W I
  unfold MonoV at mo
  generalize largeB ts = q at *
  have H := Lib.hid h
  have LG := Lib.hid lg
  clear h lg
  go_enter Try.func6, Try.ntmps6
  go_wp2_with fail
  refine (awake_calls _).mono ?_
  rintro e w1 ⟨rfl, b1⟩
  have T1 := Lib.hid (H.out.below b1)
  have B1 := Lib.hid b1
  clear b1
  cases q
  · cases hv : validT ts
    · rw [hv] at mo vr vp
      rw [if_neg (by decide)] at mo
      have MO := Lib.hid mo
      have VR := Lib.hid vr
      have VP := Lib.hid vp
      clear mo vr vp mr hv
      go_wp2_with fail
      refine (LG.out _ T1.out).mono ?_
      rintro e w2 ⟨rfl, rfl⟩
      go_wp2_with fail
      refine (MO.out _ T1.out).mono ?_
      rintro e w2 ⟨rfl, b2⟩
      have T2 := Lib.hid (T1.out.below b2)
      have B2 := Lib.hid (below_then B1.out b2 B1.out.size)
      clear b2
      go_wp2_with fail
      refine (VR.out _ T2.out).mono ?_
      rintro e w3 ⟨rfl, rfl⟩
      go_wp2_with fail
      refine (VP.out _ T2.out).mono ?_
      rintro e w3 ⟨rfl, rfl⟩
      go_wp2
      go_ret
      exact ⟨rfl, B2.out⟩
    · rw [hv] at mo vr vp
      rw [if_pos rfl] at mo
      have mr := fun W I => mr W I hv
      generalize monoB ts = b at *
      have MO := Lib.hid mo
      have VR := Lib.hid vr
      have VP := Lib.hid vp
      have MR := Lib.hid mr
      clear mo vr vp mr hv
      go_wp2_with fail
      refine (LG.out _ T1.out).mono ?_
      rintro e w2 ⟨rfl, rfl⟩
      go_wp2_with fail
      refine (MO.out _ T1.out).mono ?_
      rintro e w2 ⟨rfl, b2⟩
      have T2 := Lib.hid (T1.out.below b2)
      have B2 := Lib.hid (below_then B1.out b2 B1.out.size)
      clear b2
      go_wp2_with fail
      refine (VR.out _ T2.out).mono ?_
      rintro e w3 ⟨rfl, rfl⟩
      go_wp2_with fail
      refine (VP.out _ T2.out).mono ?_
      rintro e w3 ⟨rfl, rfl⟩
      go_wp2_with fail
      refine (MR.out _ T2.out).mono ?_
      rintro e w3 ⟨rfl, b3⟩
      have B3 := Lib.hid (below_then B2.out b3 B2.out.size)
      clear b3
      go_wp2
      go_ret
      exact ⟨ret_b (by simp), B3.out⟩
  · clear mo vr vp mr
    go_wp2_with fail
    refine (LG.out _ T1.out).mono ?_
    rintro e w2 ⟨rfl, rfl⟩
    go_wp2
    go_ret
    exact ⟨rfl, B1.out⟩
end Go.Proofs.Ytihaabdgligbbaa
