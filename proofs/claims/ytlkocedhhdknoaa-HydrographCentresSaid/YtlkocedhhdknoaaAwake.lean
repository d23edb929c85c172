/- The chapter's examples hold. -/
import Derived.Test.YtlkocedhhdknoaaConvRef
import Derived.Test.YtlkocedhhdknoaaCasRef
import Derived.Test.YtlkocedhhdknoaaTri
namespace Go.Proofs.Ytlkocedhhdknoaa
open Go.RowKit
set_option linter.unusedVariables false

theorem tri23 : TriV 2 3 = ([3, 6, 4, 2], 0) := by decide +kernel
theorem conv0 : ConvV [10, 5] [1, 2, 1] = ([2, 6, 5, 2], 0) := by decide +kernel
theorem cas123 : CasV 1 2 3 = ([536870912, 268435456, 268435456], 0) := by decide +kernel

set_option maxHeartbeats 400000 in
theorem awake_calls (w : World) : Calls Try.prog 11 #[] w fun e w' => e = .returned (.bool true) ∧ Below w.heap.size w w' := by
  have t := Triangle_calls 2 3 w
  rw [tri23] at t
  have T := Lib.hid t
  have cv := fun W A n c A' n' c' (h : Ints W A n c [10, 5]) (h' : Ints W A' n' c' [1, 2, 1]) => Convolve_calls W h h'
  rw [conv0] at cv
  have CV := Lib.hid cv
  have cs := fun W => Cascade_calls 1 2 3 W
  rw [cas123] at cs
  have CS := Lib.hid cs
  clear t cv cs
  go_enter Try.func11, Try.ntmps11
  go_wp2_with fail
  refine T.out.mono ?_
  rintro e w1 ⟨A1, n1, c1, rfl, i1, b1, -⟩
  have l1 : Ints ((w1.alloc (.cells #[.int .i64 10, .int .i64 5] 3)).alloc (.cells #[.int .i64 1, .int .i64 2, .int .i64 1] 3)) (some ⟨w1.heap.size, 0, none⟩) 2 2 [10, 5] := (Ints.lit w1 [10, 5] (by decide) (by decide)).alloc (.cells #[.int .i64 1, .int .i64 2, .int .i64 1] 3)
  have l2 : Ints ((w1.alloc (.cells #[.int .i64 10, .int .i64 5] 3)).alloc (.cells #[.int .i64 1, .int .i64 2, .int .i64 1] 3)) (some ⟨w1.heap.size + 1, 0, none⟩) 3 3 [1, 2, 1] := by
    have h := Ints.lit (w1.alloc (.cells #[.int .i64 10, .int .i64 5] 3)) [1, 2, 1] (by decide) (by decide)
    rw [World.size_alloc] at h
    exact h
  have hn1 := i1.len
  have I1 := Lib.hid i1
  have B1 := Lib.hid b1
  have C1 := Lib.hid (CV.out _ _ _ _ _ _ _ l1 l2)
  clear i1 b1 l1 l2 hn1
  go_wp2_with fail
  refine C1.out.mono ?_
  rintro e w2 ⟨A2, n2, c2, rfl, i2, b2, -⟩
  have I1' := Lib.hid (((I1.out.alloc (.cells #[.int .i64 10, .int .i64 5] 3)).alloc (.cells #[.int .i64 1, .int .i64 2, .int .i64 1] 3)).below b2)
  have I2 := Lib.hid i2
  have B2 := Lib.hid (below_then ((B1.out.alloc B1.out.size (.cells #[.int .i64 10, .int .i64 5] 3)).alloc (by simp; have := B1.out.size; omega) (.cells #[.int .i64 1, .int .i64 2, .int .i64 1] 3)) b2 (by simp; have := B1.out.size; omega))
  clear i2 b2 I1 B1 C1
  go_wp2_with fail
  refine (CS.out _).mono ?_
  rintro e w3 ⟨A3, n3, c3, rfl, i3, b3, -⟩
  have l3 : Ints (w3.alloc (.cells #[.int .i64 3, .int .i64 6, .int .i64 4, .int .i64 2] 3)) (some ⟨w3.heap.size, 0, none⟩) 4 4 [3, 6, 4, 2] := Ints.lit w3 [3, 6, 4, 2] (by decide) (by decide)
  have J1 := I1'.out.below b3
  have J2 := Lib.hid (I2.out.below b3)
  have J3 := Lib.hid i3
  have B3 := Lib.hid (below_then B2.out b3 B2.out.size)
  have e1 := equal_calls _ (J1.alloc (.cells #[.int .i64 3, .int .i64 6, .int .i64 4, .int .i64 2] 3)) l3
  rw [decide_eq_true rfl] at e1
  have E1 := Lib.hid e1
  clear i3 b3 l3 J1 e1 I1' I2 B2
  go_wp2_with fail
  refine E1.out.mono ?_
  rintro e w4 ⟨rfl, b4⟩
  have B4 := Lib.hid (below_then (B3.out.alloc B3.out.size (.cells #[.int .i64 3, .int .i64 6, .int .i64 4, .int .i64 2] 3)) b4 (by simp; have := B3.out.size; omega))
  have K2 := (J2.out.alloc (.cells #[.int .i64 3, .int .i64 6, .int .i64 4, .int .i64 2] 3)).below b4
  have K3 := Lib.hid ((J3.out.alloc (.cells #[.int .i64 3, .int .i64 6, .int .i64 4, .int .i64 2] 3)).below b4)
  have l4 : Ints (w4.alloc (.cells #[.int .i64 2, .int .i64 6, .int .i64 5, .int .i64 2] 3)) (some ⟨w4.heap.size, 0, none⟩) 4 4 [2, 6, 5, 2] := Ints.lit w4 [2, 6, 5, 2] (by decide) (by decide)
  have e2 := equal_calls _ (K2.alloc (.cells #[.int .i64 2, .int .i64 6, .int .i64 5, .int .i64 2] 3)) l4
  rw [decide_eq_true rfl] at e2
  have E2 := Lib.hid e2
  clear b4 K2 e2 l4 E1 B3 J2 J3
  go_wp2_with fail
  refine E2.out.mono ?_
  rintro e w5 ⟨rfl, b5⟩
  have B5 := Lib.hid (below_then (B4.out.alloc B4.out.size (.cells #[.int .i64 2, .int .i64 6, .int .i64 5, .int .i64 2] 3)) b5 (by simp; have := B4.out.size; omega))
  have M3 := (K3.out.alloc (.cells #[.int .i64 2, .int .i64 6, .int .i64 5, .int .i64 2] 3)).below b5
  have l5 : Ints (w5.alloc (.cells #[.int .i64 536870912, .int .i64 268435456, .int .i64 268435456] 3)) (some ⟨w5.heap.size, 0, none⟩) 3 3 [536870912, 268435456, 268435456] := Ints.lit w5 [536870912, 268435456, 268435456] (by decide) (by decide)
  have e3 := equal_calls _ (M3.alloc (.cells #[.int .i64 536870912, .int .i64 268435456, .int .i64 268435456] 3)) l5
  rw [decide_eq_true rfl] at e3
  have E3 := Lib.hid e3
  clear b5 M3 e3 l5 E2 B4 K3
  go_wp2_with fail
  refine E3.out.mono ?_
  rintro e w6 ⟨rfl, b6⟩
  have B6 := Lib.hid (below_then (B5.out.alloc B5.out.size (.cells #[.int .i64 536870912, .int .i64 268435456, .int .i64 268435456] 3)) b6 (by simp; have := B5.out.size; omega))
  clear b6
  go_wp2
  go_ret
  exact ⟨rfl, B6.out⟩
end Go.Proofs.Ytlkocedhhdknoaa
