/- The law ConditionExpects returns true. -/
import Derived.Test.YtihaabdgligbbaaAwake
namespace Go.Proofs.Ytihaabdgligbbaa
open Go.RowKit
set_option linter.unusedVariables false

set_option maxHeartbeats 1000000 in
set_option maxRecDepth 100000 in
theorem Expects_calls {A A' : Option Addr} {n c n' c' : Nat} {ts : List (List Int)} {l : List Int} (years grade part : Int) (w : World) (h : Tab w A n c ts) (h' : Ints w A' n' c' l) :
    Calls Try.prog 3 #[.slice A n c, .slice A' n' c', .int .i64 years, .int .i64 grade, .int .i64 part] w fun e w' => e = .returned (.bool true) ∧ Below w.heap.size w w' := by
  have hcap := h.cap
  have hmax := h.max
  have hcap' := h'.cap
  have hmax' := h'.max
  have e1 := fun W (I : Tab W A n c ts) (I' : Ints W A' n' c' l) => Expected_calls years W I I'
  have e2 := fun W (I : Tab W A n c ts) (I' : Ints W A' n' c' l) => Expected_ref years W I I'
  have d1 := fun W (I : Tab W A n c ts) (I' : Ints W A' n' c' l) => Due_calls grade part W I I'
  have d2 := fun W (I : Tab W A n c ts) (I' : Ints W A' n' c' l) => Due_ref grade part W I I'
  have lg := fun W (I : Tab W A n c ts) => large_calls W I
  generalize ExpV ts l years = V at *
  generalize DueV ts l grade part = D at *
  generalize largeB ts = q at *
  have H := Lib.hid h
  have H' := Lib.hid h'
  have E1 := Lib.hid e1
  have E2 := Lib.hid e2
  have D1 := Lib.hid d1
  have D2 := Lib.hid d2
  have LG := Lib.hid lg
  clear h h' e1 e2 d1 d2 lg
  go_enter Try.func3, Try.ntmps3
  go_wp2_with fail
  refine (awake_calls _).mono ?_
  rintro e w1 ⟨rfl, b1⟩
  have T1 := Lib.hid (H.out.below b1)
  have I1 := Lib.hid (H'.out.below b1)
  have B1 := Lib.hid b1
  clear b1
  cases q
  · by_cases g : (20 : Int) < n'
    · go_wp2_with fail
      refine (LG.out _ T1.out).mono ?_
      rintro e w2 ⟨rfl, rfl⟩
      go_wp2
      go_ret
      exact ⟨rfl, B1.out⟩
    · go_wp2_with fail
      refine (LG.out _ T1.out).mono ?_
      rintro e w2 ⟨rfl, rfl⟩
      go_wp2_with fail
      refine (E1.out _ T1.out I1.out).mono ?_
      rintro e w2 ⟨rfl, b2⟩
      have T2 := Lib.hid ((T1.out.below b2).alloc (.cells #[.int .i64 V.1.1, .int .i64 V.1.2] 27))
      have I2 := Lib.hid ((I1.out.below b2).alloc (.cells #[.int .i64 V.1.1, .int .i64 V.1.2] 27))
      have P2 := Lib.hid (Pair.made w2 V.1.1 V.1.2)
      have B2 := Lib.hid ((below_then B1.out b2 B1.out.size).alloc (by have := B1.out.size; have := b2.size; omega) (.cells #[.int .i64 V.1.1, .int .i64 V.1.2] 27))
      clear b2
      go_wp2_with fail
      refine (D1.out _ T2.out I2.out).mono ?_
      rintro e w3 ⟨rfl, b3⟩
      have T3 := Lib.hid (T2.out.below b3)
      have I3 := Lib.hid (I2.out.below b3)
      have P3 := Lib.hid (P2.out.below b3)
      have B3 := Lib.hid (below_then B2.out b3 B2.out.size)
      clear b3
      go_wp2_with fail
      refine (E2.out _ T3.out I3.out).mono ?_
      rintro e w4 ⟨rfl, b4⟩
      have T4 := Lib.hid ((T3.out.below b4).alloc (.cells #[.int .i64 V.1.1, .int .i64 V.1.2] 27))
      have I4 := Lib.hid ((I3.out.below b4).alloc (.cells #[.int .i64 V.1.1, .int .i64 V.1.2] 27))
      have P4 := Lib.hid ((P3.out.below b4).alloc (.cells #[.int .i64 V.1.1, .int .i64 V.1.2] 27))
      have R4 := Lib.hid (Pair.made w4 V.1.1 V.1.2)
      have B4 := Lib.hid ((below_then B3.out b4 B3.out.size).alloc (by have := B3.out.size; have := b4.size; omega) (.cells #[.int .i64 V.1.1, .int .i64 V.1.2] 27))
      clear b4
      go_wp2_with fail
      refine (D2.out _ T4.out I4.out).mono ?_
      rintro e w5 ⟨rfl, b5⟩
      obtain ⟨p0, p1, pl⟩ := P4.out.below b5
      obtain ⟨r0, r1, rl⟩ := R4.out.below b5
      have B5 := Lib.hid (below_then B4.out b5 B4.out.size)
      clear b5
      go_wp2
      go_ret
      exact ⟨rfl, B5.out⟩
  · go_wp2_with fail
    refine (LG.out _ T1.out).mono ?_
    rintro e w2 ⟨rfl, rfl⟩
    go_wp2
    go_ret
    exact ⟨rfl, B1.out⟩
end Go.Proofs.Ytihaabdgligbbaa
