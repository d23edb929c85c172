/- Lag, Add of both at any arguments; the law HydrographSeries returns true. -/
import Derived.Test.YtlkocedhhdknoaaPeak
import Derived.Test.YtlkocedhhdknoaaLawA
namespace Go.Proofs.Ytlkocedhhdknoaa
open Go.RowKit
set_option linter.unusedVariables false

set_option maxHeartbeats 600000 in
theorem Lag_calls {A : Option Addr} {n c : Nat} {vs : List Int} (k : Int) (w : World) (h : Ints w A n c vs) :
    Calls Try.prog 31 #[.slice A n c, .int .i64 k] w (RetL (LagV vs k).1 (LagV vs k).2 w) := by
  obtain ⟨V, hV⟩ : ∃ V, LagV vs k = V := ⟨_, rfl⟩
  rw [hV]
  unfold LagV at hV
  have hl := h.len
  have hcap := h.cap
  have hmax := h.max
  rw [hl] at hV
  have s1 := series_calls w h
  cases hv : seriesB vs
  · rw [hv, if_pos rfl] at hV
    rw [hv] at s1
    have S1 := Lib.hid s1
    have HV := Lib.hid hV
    clear s1 hV h hv hl
    go_enter Try.func31, Try.ntmps31
    go_wp2_with fail
    refine S1.out.mono ?_
    rintro e w1 ⟨rfl, hb1⟩
    go_wp2
    go_returns
    rw [← HV.out]
    exact RetL.none_ (hb1)
  · rw [hv, if_neg (by decide)] at hV
    rw [hv] at s1
    have hfew := (series_parts hv).1
    rw [hl] at hfew
    have S1 := Lib.hid s1
    by_cases k1 : k < 0
    · rw [if_pos (by omega)] at hV
      have HV := Lib.hid hV
      clear s1 hV h hv hl
      go_enter Try.func31, Try.ntmps31
      go_wp2_with fail
      refine S1.out.mono ?_
      rintro e w1 ⟨rfl, hb1⟩
      go_wp2
      go_returns
      rw [← HV.out]
      exact RetL.none_ (hb1)
    by_cases k2 : 10000 < k
    · rw [if_pos (by omega)] at hV
      have HV := Lib.hid hV
      clear s1 hV h hv hl
      go_enter Try.func31, Try.ntmps31
      go_wp2_with fail
      refine S1.out.mono ?_
      rintro e w1 ⟨rfl, hb1⟩
      go_wp2
      go_returns
      rw [← HV.out]
      exact RetL.none_ (hb1)
    rw [if_neg (by omega)] at hV
    by_cases k3 : 10000 < k + (n : Int)
    · rw [if_pos (by omega)] at hV
      have HV := Lib.hid hV
      clear s1 hV h hv hl
      go_enter Try.func31, Try.ntmps31
      go_wp2_with fail
      refine S1.out.mono ?_
      rintro e w1 ⟨rfl, hb1⟩
      go_wp2
      go_returns
      rw [← HV.out]
      exact RetL.none_ (hb1)
    rw [if_neg (by omega)] at hV
    obtain ⟨q, rfl⟩ : ∃ q : Nat, k = q := ⟨k.toNat, by omega⟩
    rw [← hV, Int.toNat_natCast]
    exact Lag_in q w h hv (by omega) (by omega)

set_option maxHeartbeats 600000 in
theorem Lag_ref {A : Option Addr} {n c : Nat} {vs : List Int} (k : Int) (w : World) (h : Ints w A n c vs) :
    Calls Try.prog 37 #[.slice A n c, .int .i64 k] w (RetL (LagV vs k).1 (LagV vs k).2 w) := by
  obtain ⟨V, hV⟩ : ∃ V, LagV vs k = V := ⟨_, rfl⟩
  rw [hV]
  unfold LagV at hV
  have hl := h.len
  have hcap := h.cap
  have hmax := h.max
  rw [hl] at hV
  have s1 := Series_ref w h
  cases hv : seriesB vs
  · rw [hv, if_pos rfl] at hV
    rw [hv] at s1
    have S1 := Lib.hid s1
    have HV := Lib.hid hV
    clear s1 hV h hv hl
    go_enter Try.func37, Try.ntmps37
    go_wp2_with fail
    refine S1.out.mono ?_
    rintro e w1 ⟨rfl, rfl⟩
    go_wp2
    go_returns
    rw [← HV.out]
    exact RetL.none_ (Below.refl _ _)
  · rw [hv, if_neg (by decide)] at hV
    rw [hv] at s1
    have hfew := (series_parts hv).1
    rw [hl] at hfew
    have S1 := Lib.hid s1
    by_cases k1 : k < 0
    · rw [if_pos (by omega)] at hV
      have HV := Lib.hid hV
      clear s1 hV h hv hl
      go_enter Try.func37, Try.ntmps37
      go_wp2_with fail
      refine S1.out.mono ?_
      rintro e w1 ⟨rfl, rfl⟩
      go_wp2
      go_returns
      rw [← HV.out]
      exact RetL.none_ (Below.refl _ _)
    by_cases k2 : 10000 < k
    · rw [if_pos (by omega)] at hV
      have HV := Lib.hid hV
      clear s1 hV h hv hl
      go_enter Try.func37, Try.ntmps37
      go_wp2_with fail
      refine S1.out.mono ?_
      rintro e w1 ⟨rfl, rfl⟩
      go_wp2
      go_returns
      rw [← HV.out]
      exact RetL.none_ (Below.refl _ _)
    rw [if_neg (by omega)] at hV
    by_cases k3 : 10000 < (n : Int) + k
    · rw [if_pos (by omega)] at hV
      have HV := Lib.hid hV
      clear s1 hV h hv hl
      go_enter Try.func37, Try.ntmps37
      go_wp2_with fail
      refine S1.out.mono ?_
      rintro e w1 ⟨rfl, rfl⟩
      go_wp2
      go_returns
      rw [← HV.out]
      exact RetL.none_ (Below.refl _ _)
    rw [if_neg (by omega)] at hV
    obtain ⟨q, rfl⟩ : ∃ q : Nat, k = q := ⟨k.toNat, by omega⟩
    rw [← hV, Int.toNat_natCast]
    exact Lag_inR q w h hv (by omega) (by omega)

set_option maxHeartbeats 600000 in
theorem Add_calls {A A' : Option Addr} {n c n' c' : Nat} {xs ys : List Int} (w : World) (h : Ints w A n c xs) (h' : Ints w A' n' c' ys) :
    Calls Try.prog 32 #[.slice A n c, .slice A' n' c'] w (RetL (AddV xs ys).1 (AddV xs ys).2 w) := by
  obtain ⟨V, hV⟩ : ∃ V, AddV xs ys = V := ⟨_, rfl⟩
  rw [hV]
  unfold AddV at hV
  have s1 := series_calls w h
  cases hs : seriesB xs
  · rw [if_pos (.inl hs)] at hV
    rw [hs] at s1
    have S1 := Lib.hid s1
    have HV := Lib.hid hV
    clear s1 hV h h' hs
    go_enter Try.func32, Try.ntmps32
    go_wp2_with fail
    refine S1.out.mono ?_
    rintro e w1 ⟨rfl, hb1⟩
    go_wp2
    go_returns
    rw [← HV.out]
    exact RetL.none_ (hb1)
  · rw [hs] at s1
    cases hv : seriesB ys
    · rw [if_pos (.inr hv)] at hV
      have S1 := Lib.hid s1
      have HV := Lib.hid hV
      have H' := Lib.hid h'
      have HVB := Lib.hid hv
      clear s1 hV h h' hs hv
      go_enter Try.func32, Try.ntmps32
      go_wp2_with fail
      refine S1.out.mono ?_
      rintro e w1 ⟨rfl, hb1⟩
      have s2 := series_calls w1 (H'.out.below hb1)
      rw [HVB.out] at s2
      have S2 := Lib.hid s2
      clear s2
      go_wp2_with fail
      refine S2.out.mono ?_
      rintro e w2 ⟨rfl, hb2⟩
      go_wp2
      go_returns
      rw [← HV.out]
      exact RetL.none_ (below_then hb1 hb2 hb1.size)
    · rw [if_neg (by rw [hs, hv]; decide)] at hV
      rw [← hV]
      by_cases ho : n' ≤ n
      · exact Add_long w h h' hs hv ho
      · have e : addR xs ys = addR ys xs := by unfold addR; rw [addL_comm]
        rw [e]
        exact Add_short w h h' hs hv (by omega)

set_option maxHeartbeats 600000 in
theorem Add_ref {A A' : Option Addr} {n c n' c' : Nat} {xs ys : List Int} (w : World) (h : Ints w A n c xs) (h' : Ints w A' n' c' ys) :
    Calls Try.prog 38 #[.slice A n c, .slice A' n' c'] w (RetL (AddV xs ys).1 (AddV xs ys).2 w) := by
  obtain ⟨V, hV⟩ : ∃ V, AddV xs ys = V := ⟨_, rfl⟩
  rw [hV]
  unfold AddV at hV
  have s1 := Series_ref w h
  cases hs : seriesB xs
  · rw [if_pos (.inl hs)] at hV
    rw [hs] at s1
    have S1 := Lib.hid s1
    have HV := Lib.hid hV
    clear s1 hV h h' hs
    go_enter Try.func38, Try.ntmps38
    go_wp2_with fail
    refine S1.out.mono ?_
    rintro e w1 ⟨rfl, rfl⟩
    go_wp2
    go_returns
    rw [← HV.out]
    exact RetL.none_ (Below.refl _ _)
  · rw [hs] at s1
    cases hv : seriesB ys
    · rw [if_pos (.inr hv)] at hV
      have S1 := Lib.hid s1
      have HV := Lib.hid hV
      have H' := Lib.hid h'
      have HVB := Lib.hid hv
      clear s1 hV h h' hs hv
      go_enter Try.func38, Try.ntmps38
      go_wp2_with fail
      refine S1.out.mono ?_
      rintro e w1 ⟨rfl, rfl⟩
      have s2 := Series_ref w H'.out
      rw [HVB.out] at s2
      have S2 := Lib.hid s2
      clear s2
      go_wp2_with fail
      refine S2.out.mono ?_
      rintro e w2 ⟨rfl, rfl⟩
      go_wp2
      go_returns
      rw [← HV.out]
      exact RetL.none_ (Below.refl _ _)
    · rw [if_neg (by rw [hs, hv]; decide)] at hV
      rw [← hV]
      exact Add_inR w h h' hs hv

set_option maxHeartbeats 1000000 in
theorem Series_calls {A A' : Option Addr} {n c n' c' : Nat} {xs ys : List Int} (k : Int) (w : World) (h : Ints w A n c xs) (h' : Ints w A' n' c' ys) :
    Calls Try.prog 10 #[.slice A n c, .slice A' n' c', .int .i64 k] w fun e w' => e = .returned (.bool true) ∧ Below w.heap.size w w' := by
  have H := Lib.hid h
  have H' := Lib.hid h'
  have l1 := fun W I => Lag_calls (A := A) (n := n) (c := c) (vs := xs) k W I
  have l2 := fun W I => Lag_ref (A := A) (n := n) (c := c) (vs := xs) k W I
  have a1 := fun W I I' => Add_calls (A := A) (n := n) (c := c) (xs := xs) (A' := A') (n' := n') (c' := c') (ys := ys) W I I'
  have a2 := fun W I I' => Add_ref (A := A) (n := n) (c := c) (xs := xs) (A' := A') (n' := n') (c' := c') (ys := ys) W I I'
  have p1 := fun W I => Peak_calls (A := A) (n := n) (c := c) (zs := xs) W I
  have p2 := fun W I => Peak_ref (A := A) (n := n) (c := c) (zs := xs) W I
  generalize LagV xs k = VL at *
  generalize AddV xs ys = VA at *
  generalize PeakV xs = VP at *
  obtain ⟨ll, xl⟩ := VL
  obtain ⟨la, xa⟩ := VA
  obtain ⟨q1, q2, q3⟩ := VP
  have L1 := Lib.hid l1
  have L2 := Lib.hid l2
  have A1 := Lib.hid a1
  have A2 := Lib.hid a2
  have P1 := Lib.hid p1
  have P2 := Lib.hid p2
  clear l1 l2 a1 a2 p1 p2 h h'
  go_enter Try.func10, Try.ntmps10
  go_wp2_with fail
  refine (awake_calls _).mono ?_
  rintro e w1 ⟨rfl, b1⟩
  have m1 := many_calls 100 10000 (by omega) (by omega) w1 (H.out.below b1)
  have m2 := many_calls 100 10000 (by omega) (by omega) w1 (H'.out.below b1)
  generalize (decide ((100 : Int) < n) && decide ((n : Int) ≤ 10000) || decide ((10000 : Int) + 100 < n)) = p at *
  generalize (decide ((100 : Int) < n') && decide ((n' : Int) ≤ 10000) || decide ((10000 : Int) + 100 < n')) = q at *
  have B1 := Lib.hid b1
  have M1 := Lib.hid m1
  have M2 := Lib.hid m2
  clear b1 m1 m2
  cases p
  · go_wp2_with fail
    refine M1.out.mono ?_
    rintro e w2 ⟨rfl, rfl⟩
    cases q
    · go_wp2_with fail
      refine M2.out.mono ?_
      rintro e w2 ⟨rfl, rfl⟩
      go_wp2_with fail
      refine (L1.out _ (H.out.below B1.out)).mono ?_
      rintro e w2 ⟨X1, n1, c1, rfl, i1, b2, -⟩
      have I1 := Lib.hid i1
      have B2 := Lib.hid (below_then B1.out b2 B1.out.size)
      clear i1 b2
      go_wp2_with fail
      refine (L2.out _ (H.out.below B2.out)).mono ?_
      rintro e w3 ⟨X2, n2, c2, rfl, i2, b3, -⟩
      have J1 := Lib.hid (I1.out.below b3)
      have J2 := Lib.hid i2
      have B3 := Lib.hid (below_then B2.out b3 B2.out.size)
      clear i2 b3 I1 B2
      go_wp2_with fail
      refine (A1.out _ (H.out.below B3.out) (H'.out.below B3.out)).mono ?_
      rintro e w4 ⟨X3, n3, c3, rfl, i3, b4, -⟩
      have K1 := Lib.hid (J1.out.below b4)
      have K2 := Lib.hid (J2.out.below b4)
      have K3 := Lib.hid i3
      have B4 := Lib.hid (below_then B3.out b4 B3.out.size)
      clear i3 b4 J1 J2 B3
      go_wp2_with fail
      refine (A2.out _ (H.out.below B4.out) (H'.out.below B4.out)).mono ?_
      rintro e w5 ⟨X4, n4, c4, rfl, i4, b5, -⟩
      have N1 := Lib.hid (K1.out.below b5)
      have N2 := Lib.hid (K2.out.below b5)
      have N3 := Lib.hid (K3.out.below b5)
      have N4 := Lib.hid i4
      have B5 := Lib.hid (below_then B4.out b5 B4.out.size)
      clear i4 b5 K1 K2 K3 B4
      go_wp2_with fail
      refine (P1.out _ (H.out.below B5.out)).mono ?_
      rintro e w6 ⟨rfl, b6⟩
      have O1 := Lib.hid (N1.out.below b6)
      have O2 := Lib.hid (N2.out.below b6)
      have O3 := Lib.hid (N3.out.below b6)
      have O4 := Lib.hid (N4.out.below b6)
      have B6 := Lib.hid (below_then B5.out b6 B5.out.size)
      clear b6 N1 N2 N3 N4 B5
      go_wp2_with fail
      refine (P2.out _ (H.out.below B6.out)).mono ?_
      rintro e w7 ⟨rfl, b7⟩
      have R3 := Lib.hid (O3.out.below b7)
      have R4 := Lib.hid (O4.out.below b7)
      have B7 := Lib.hid (below_then B6.out b7 B6.out.size)
      have e1 := equal_calls w7 (O1.out.below b7) (O2.out.below b7)
      rw [decide_eq_true rfl] at e1
      have E1 := Lib.hid e1
      clear b7 e1 O1 O2 O3 O4 B6
      go_wp2_with fail
      refine E1.out.mono ?_
      rintro e w8 ⟨rfl, b8⟩
      have B8 := Lib.hid (below_then B7.out b8 B7.out.size)
      have e2 := equal_calls w8 (R3.out.below b8) (R4.out.below b8)
      rw [decide_eq_true rfl] at e2
      have E2 := Lib.hid e2
      clear b8 e2 R3 R4 B7
      go_wp2_with fail
      refine E2.out.mono ?_
      rintro e w9 ⟨rfl, b9⟩
      have B9 := Lib.hid (below_then B8.out b9 B8.out.size)
      clear b9
      go_wp2
      go_ret
      exact ⟨rfl, B9.out⟩
    · go_wp2_with fail
      refine M2.out.mono ?_
      rintro e w2 ⟨rfl, rfl⟩
      go_wp2
      go_ret
      exact ⟨rfl, B1.out⟩
  · go_wp2_with fail
    refine M1.out.mono ?_
    rintro e w2 ⟨rfl, rfl⟩
    go_wp2
    go_ret
    exact ⟨rfl, B1.out⟩
end Go.Proofs.Ytlkocedhhdknoaa
