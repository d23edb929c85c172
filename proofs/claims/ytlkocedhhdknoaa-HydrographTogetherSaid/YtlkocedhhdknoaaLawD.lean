/- Longer of both at any arguments; the law HydrographCurves returns true. -/
import Derived.Test.YtlkocedhhdknoaaLong
import Derived.Test.YtlkocedhhdknoaaLawA
namespace Go.Proofs.Ytlkocedhhdknoaa
open Go.RowKit
set_option linter.unusedVariables false

set_option maxHeartbeats 1000000 in
theorem Longer_calls {A : Option Addr} {n c : Nat} {us : List Int} (k : Int) (w : World) (h : Ints w A n c us) :
    Calls Try.prog 26 #[.slice A n c, .int .i64 k] w (RetL (LongV us k).1 (LongV us k).2 w) := by
  obtain ⟨V, hV⟩ : ∃ V, LongV us k = V := ⟨_, rfl⟩
  rw [hV]
  unfold LongV at hV
  have hl := h.len
  have hcap := h.cap
  have hmax := h.max
  rw [hl] at hV
  have s1 := Valid_calls w h
  cases hv : validB us
  · rw [hv, if_pos rfl] at hV
    rw [hv] at s1
    have S1 := Lib.hid s1
    have HV := Lib.hid hV
    clear s1 hV h hv hl
    go_enter Try.func26, Try.ntmps26
    go_wp2_with fail
    refine S1.out.mono ?_
    rintro e w1 ⟨rfl, hb1⟩
    go_wp2
    go_returns
    rw [← HV.out]
    exact RetL.none_ (hb1)
  · rw [hv, if_neg (by decide)] at hV
    rw [hv] at s1
    have hfew := (valid_parts hv).2.1
    rw [hl] at hfew
    have S1 := Lib.hid s1
    by_cases k1 : k < 1
    · rw [if_pos (by omega)] at hV
      have HV := Lib.hid hV
      clear s1 hV h hv hl
      go_enter Try.func26, Try.ntmps26
      go_wp2_with fail
      refine S1.out.mono ?_
      rintro e w1 ⟨rfl, hb1⟩
      go_wp2
      go_returns
      rw [← HV.out]
      exact RetL.none_ (hb1)
    by_cases k2 : 1000 < k
    · rw [if_pos (by omega)] at hV
      have HV := Lib.hid hV
      clear s1 hV h hv hl
      go_enter Try.func26, Try.ntmps26
      go_wp2_with fail
      refine S1.out.mono ?_
      rintro e w1 ⟨rfl, hb1⟩
      go_wp2
      go_returns
      rw [← HV.out]
      exact RetL.none_ (hb1)
    rw [if_neg (by omega)] at hV
    by_cases k3 : 1000 < (n : Int) + k - 1
    · rw [if_pos k3] at hV
      have HV := Lib.hid hV
      clear s1 hV h hv hl
      go_enter Try.func26, Try.ntmps26
      go_wp2_with fail
      refine S1.out.mono ?_
      rintro e w1 ⟨rfl, hb1⟩
      go_wp2
      go_returns
      rw [← HV.out]
      exact RetL.none_ (hb1)
    rw [if_neg k3] at hV
    obtain ⟨q, rfl⟩ : ∃ q : Nat, k = q := ⟨k.toNat, by omega⟩
    rw [← hV, Int.toNat_natCast]
    exact Longer_in q w h hv (by omega) (by omega) (by omega)

set_option maxHeartbeats 1000000 in
theorem Longer_ref {A : Option Addr} {n c : Nat} {us : List Int} (k : Int) (w : World) (h : Ints w A n c us) :
    Calls Try.prog 27 #[.slice A n c, .int .i64 k] w (RetL (LongV us k).1 (LongV us k).2 w) := by
  obtain ⟨V, hV⟩ : ∃ V, LongV us k = V := ⟨_, rfl⟩
  rw [hV]
  unfold LongV at hV
  have hl := h.len
  have hcap := h.cap
  have hmax := h.max
  rw [hl] at hV
  have s1 := Valid_ref w h
  cases hv : validB us
  · rw [hv, if_pos rfl] at hV
    rw [hv] at s1
    have S1 := Lib.hid s1
    have HV := Lib.hid hV
    clear s1 hV h hv hl
    go_enter Try.func27, Try.ntmps27
    go_wp2_with fail
    refine S1.out.mono ?_
    rintro e w1 ⟨rfl, rfl⟩
    go_wp2
    go_returns
    rw [← HV.out]
    exact RetL.none_ (Below.refl _ _)
  · rw [hv, if_neg (by decide)] at hV
    rw [hv] at s1
    have hfew := (valid_parts hv).2.1
    rw [hl] at hfew
    have S1 := Lib.hid s1
    by_cases k1 : k < 1
    · rw [if_pos (by omega)] at hV
      have HV := Lib.hid hV
      clear s1 hV h hv hl
      go_enter Try.func27, Try.ntmps27
      go_wp2_with fail
      refine S1.out.mono ?_
      rintro e w1 ⟨rfl, rfl⟩
      go_wp2
      go_returns
      rw [← HV.out]
      exact RetL.none_ (Below.refl _ _)
    by_cases k2 : 1000 < k
    · rw [if_pos (by omega)] at hV
      have HV := Lib.hid hV
      clear s1 hV h hv hl
      go_enter Try.func27, Try.ntmps27
      go_wp2_with fail
      refine S1.out.mono ?_
      rintro e w1 ⟨rfl, rfl⟩
      go_wp2
      go_returns
      rw [← HV.out]
      exact RetL.none_ (Below.refl _ _)
    rw [if_neg (by omega)] at hV
    by_cases k3 : 1000 < (n : Int) + k - 1
    · rw [if_pos k3] at hV
      have HV := Lib.hid hV
      clear s1 hV h hv hl
      go_enter Try.func27, Try.ntmps27
      go_wp2_with fail
      refine S1.out.mono ?_
      rintro e w1 ⟨rfl, rfl⟩
      go_wp2
      go_returns
      rw [← HV.out]
      exact RetL.none_ (Below.refl _ _)
    rw [if_neg k3] at hV
    obtain ⟨q, rfl⟩ : ∃ q : Nat, k = q := ⟨k.toNat, by omega⟩
    rw [← hV, Int.toNat_natCast]
    exact Longer_inR q w h hv (by omega) (by omega) (by omega)

set_option maxHeartbeats 1000000 in
theorem Curves_calls {A : Option Addr} {n c : Nat} {us : List Int} (k : Int) (w : World) (h : Ints w A n c us) :
    Calls Try.prog 6 #[.slice A n c, .int .i64 k] w fun e w' => e = .returned (.bool true) ∧ Below w.heap.size w w' := by
  have hcap := h.cap
  have hmax := h.max
  have hfew := h.few
  have H := Lib.hid h
  clear h
  by_cases g : 60 < k ∧ k ≤ 1000 ∧ (n : Int) + k ≤ 1001
  · obtain ⟨g1, g2, g3⟩ := g
    go_enter Try.func6, Try.ntmps6
    go_wp2_with fail
    refine (awake_calls _).mono ?_
    rintro e w1 ⟨rfl, b1⟩
    have m1 := many_calls 60 1000 (by omega) (by omega) w1 (H.out.below b1)
    generalize (decide ((60 : Int) < n) && decide ((n : Int) ≤ 1000) || decide ((1000 : Int) + 100 < n)) = p at *
    have B1 := Lib.hid b1
    have M1 := Lib.hid m1
    clear b1 m1
    cases p
    · go_wp2_with fail
      refine M1.out.mono ?_
      rintro e w2 ⟨rfl, rfl⟩
      go_wp2
      go_ret
      exact ⟨rfl, B1.out⟩
    · go_wp2_with fail
      refine M1.out.mono ?_
      rintro e w2 ⟨rfl, rfl⟩
      go_wp2
      go_ret
      exact ⟨rfl, B1.out⟩
  · have g' : ¬ 60 < k ∨ (60 < k ∧ ¬ k ≤ 1000) ∨ (60 < k ∧ k ≤ 1000 ∧ ¬ (n : Int) + k ≤ 1001) := by omega
    have G := Lib.hid g'
    clear g g'
    have cv := fun W I => Curve_calls (A := A) (n := n) (c := c) (us := us) W I
    have vr := fun W I => Valid_ref (A := A) (n := n) (c := c) (zs := us) W I
    have cr := fun W I hv => Curve_ref (A := A) (n := n) (c := c) (us := us) W I hv
    have l1 := fun W I => Longer_calls (A := A) (n := n) (c := c) (us := us) k W I
    have l2 := fun W I => Longer_ref (A := A) (n := n) (c := c) (us := us) k W I
    generalize LongV us k = V at *
    obtain ⟨l, x⟩ := V
    have CV := Lib.hid cv
    have VR := Lib.hid vr
    have CR := Lib.hid cr
    have L1 := Lib.hid l1
    have L2 := Lib.hid l2
    clear cv vr cr l1 l2
    go_enter Try.func6, Try.ntmps6
    go_wp2_with fail
    refine (awake_calls _).mono ?_
    rintro e w1 ⟨rfl, b1⟩
    have m1 := many_calls 60 1000 (by omega) (by omega) w1 (H.out.below b1)
    generalize (decide ((60 : Int) < n) && decide ((n : Int) ≤ 1000) || decide ((1000 : Int) + 100 < n)) = p at *
    have B1 := Lib.hid b1
    have M1 := Lib.hid m1
    clear b1 m1
    cases p
    · go_wp2_with fail
      refine M1.out.mono ?_
      rintro e w2 ⟨rfl, rfl⟩
      have cvw := CV.out w1 (H.out.below B1.out)
      cases hv : validB us
      all_goals
        rw [hv] at cvw VR
        first | rw [if_neg (by decide), if_neg (by decide)] at cvw | rw [if_pos rfl, if_pos rfl] at cvw
        have CVW := Lib.hid cvw
        have HV := Lib.hid hv
        clear cvw hv
        rcases G.out with g1 | ⟨g1, g2⟩ | ⟨g1, g2, g3⟩
        all_goals
          go_wp2_with fail
          refine CVW.out.mono ?_
          rintro e w2 ⟨A1, n1, c1, rfl, i1, b2, -⟩
          have hn1 := i1.len
          have I1 := Lib.hid i1
          have B2 := Lib.hid (below_then B1.out b2 B1.out.size)
          have l1w := L1.out w2 (H.out.below B2.out)
          have L1W := Lib.hid l1w
          have HN1 := Lib.hid hn1
          clear i1 b2 l1w hn1
          go_wp2_with fail
          refine L1W.out.mono ?_
          rintro e w3 ⟨A2, n2, c2, rfl, i2, b3, -⟩
          have I2 := Lib.hid i2
          have J1 := Lib.hid (I1.out.below b3)
          have B3 := Lib.hid (below_then B2.out b3 B2.out.size)
          have l2w := L2.out w3 (H.out.below B3.out)
          have L2W := Lib.hid l2w
          clear i2 b3 l2w
          go_wp2_with fail
          refine L2W.out.mono ?_
          rintro e w4 ⟨A3, n3, c3, rfl, i3, b4, -⟩
          have eq := equal_calls w4 (I2.out.below b4) i3
          rw [decide_eq_true rfl] at eq
          have EQ := Lib.hid eq
          have K1 := Lib.hid (J1.out.below b4)
          have B4 := Lib.hid (below_then B3.out b4 B3.out.size)
          clear i3 b4 eq
          go_wp2_with fail
          refine EQ.out.mono ?_
          rintro e w5 ⟨rfl, b5⟩
          have M1' := Lib.hid (K1.out.below b5)
          have B5 := Lib.hid (below_then B4.out b5 B4.out.size)
          have vrw := VR.out w5 (H.out.below B5.out)
          have VRW := Lib.hid vrw
          clear b5 vrw
          go_wp2_with fail
          refine VRW.out.mono ?_
          rintro e w6 ⟨rfl, rfl⟩
          first
          | (obtain rfl : n1 = 0 := by (have := HN1.out; simpa using this.symm)
             go_wp2
             go_ret
             exact ⟨rfl, B5.out⟩)
          | (have crw := CR.out w5 (H.out.below B5.out) HV.out
             have CRW := Lib.hid crw
             clear crw
             go_wp2_with fail
             refine CRW.out.mono ?_
             rintro e w7 ⟨A7, n7, c7, rfl, i7, b7, -⟩
             have eq2 := equal_calls w7 (M1'.out.below b7) i7
             rw [decide_eq_true rfl] at eq2
             have EQ2 := Lib.hid eq2
             have B7 := Lib.hid (below_then B5.out b7 B5.out.size)
             clear i7 b7 eq2
             go_wp2_with fail
             refine EQ2.out.mono ?_
             rintro e w8 ⟨rfl, b8⟩
             have B8 := Lib.hid (below_then B7.out b8 B7.out.size)
             clear b8
             go_wp2
             go_ret
             exact ⟨rfl, B8.out⟩)
    · go_wp2_with fail
      refine M1.out.mono ?_
      rintro e w2 ⟨rfl, rfl⟩
      go_wp2
      go_ret
      exact ⟨rfl, B1.out⟩
end Go.Proofs.Ytlkocedhhdknoaa
