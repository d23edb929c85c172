/- The law HydrographDelays returns true. -/
import Derived.Test.YtlkocedhhdknoaaDelLaw
import Derived.Test.YtlkocedhhdknoaaLawH
import Derived.Deep.QuietTactic
import Derived.BigQuiet
import Derived.IntWalk
namespace Go.Proofs.Ytlkocedhhdknoaa
open Go.RowKit
set_option linter.unusedVariables false

set_option maxRecDepth 100000 in
set_option maxHeartbeats 1000000 in
theorem Delays_out {A A' A'' : Option Addr} {n c n' c' n'' c'' : Nat} {xs ys us : List Int} (k : Int) (w : World) (h : Ints w A n c xs) (h' : Ints w A' n' c' ys) (h'' : Ints w A'' n'' c'' us) (hno : ¬ ((n : Int) ≤ 40 ∧ (n' : Int) ≤ 40 ∧ (n'' : Int) ≤ 30 ∧ 0 ≤ k ∧ k ≤ 40 ∧ seriesB xs = true ∧ seriesB ys = true ∧ validB us = true)) :
    Calls Try.prog 8 #[.slice A n c, .slice A' n' c', .slice A'' n'' c'', .int .i64 k] w fun e w' => e = .returned (.bool true) ∧ Below w.heap.size w w' := by
  have hcap := h.cap
  have hmax := h.max
  have hcap' := h'.cap
  have hmax' := h'.max
  have hcap'' := h''.cap
  have hmax'' := h''.max
  have H := Lib.hid h
  have H' := Lib.hid h'
  have H'' := Lib.hid h''
  have V1 := Lib.hid (fun W (I : Ints W A n c xs) => Series_ref (A := A) (n := n) (c := c) (zs := xs) W I)
  have V2 := Lib.hid (fun W (I : Ints W A' n' c' ys) => Series_ref (A := A') (n := n') (c := c') (zs := ys) W I)
  have V3 := Lib.hid (fun W (I : Ints W A'' n'' c'' us) => Valid_ref (A := A'') (n := n'') (c := c'') (zs := us) W I)
  have hno' : 40 < (n : Int) ∨ (¬ 40 < (n : Int) ∧ (40 < (n' : Int) ∨ (¬ 40 < (n' : Int) ∧ (30 < (n'' : Int) ∨ (¬ 30 < (n'' : Int) ∧ (k < 0 ∨ (¬ k < 0 ∧ (40 < k ∨ (¬ 40 < k ∧ (seriesB xs = false ∨ (seriesB xs = true ∧ (seriesB ys = false ∨ (seriesB ys = true ∧ validB us = false))))))))))))) := by
    by_cases p0 : 40 < (n : Int)
    · exact .inl p0
    refine .inr ⟨p0, ?_⟩
    by_cases p1 : 40 < (n' : Int)
    · exact .inl p1
    refine .inr ⟨p1, ?_⟩
    by_cases p2 : 30 < (n'' : Int)
    · exact .inl p2
    refine .inr ⟨p2, ?_⟩
    by_cases p3 : k < 0
    · exact .inl p3
    refine .inr ⟨p3, ?_⟩
    by_cases p4 : 40 < k
    · exact .inl p4
    refine .inr ⟨p4, ?_⟩
    cases p5 : seriesB xs
    · exact .inl rfl
    refine .inr ⟨rfl, ?_⟩
    cases p6 : seriesB ys
    · exact .inl rfl
    refine .inr ⟨rfl, ?_⟩
    cases p7 : validB us
    · rfl
    exact absurd ⟨by omega, by omega, by omega, by omega, by omega, p5, p6, p7⟩ hno
  have HN := Lib.hid hno'
  clear h h' h'' hno hno'
  go_enter Try.func8, Try.ntmps8
  go_wp2_with fail
  refine (awake_calls _).mono ?_
  rintro e w1 ⟨rfl, b1⟩
  have B1 := Lib.hid b1
  have W1 := Lib.hid (V1.out w1 (H.out.below b1))
  have W2 := Lib.hid (V2.out w1 (H'.out.below b1))
  have W3 := Lib.hid (V3.out w1 (H''.out.below b1))
  clear b1 V1 V2 V3
  rcases HN.out with h0 | ⟨h0, h1 | ⟨h1, h2 | ⟨h2, h3 | ⟨h3, h4 | ⟨h4, h5⟩⟩⟩⟩⟩
  iterate 5
    · go_wp2
      go_ret
      exact ⟨rfl, B1.out⟩
  · have H5 := Lib.hid h5
    clear h5 HN
    rcases H5.out with h5 | ⟨h5, h6 | ⟨h6, h7⟩⟩
    · rw [h5] at W1
      clear h5 H5
      go_wp2_with fail
      refine W1.out.mono ?_
      rintro e w2 ⟨rfl, rfl⟩
      go_wp2
      go_ret
      exact ⟨rfl, B1.out⟩
    · rw [h5] at W1
      rw [h6] at W2
      clear h5 h6 H5
      go_wp2_with fail
      refine W1.out.mono ?_
      rintro e w2 ⟨rfl, rfl⟩
      go_wp2_with fail
      refine W2.out.mono ?_
      rintro e w2 ⟨rfl, rfl⟩
      go_wp2
      go_ret
      exact ⟨rfl, B1.out⟩
    · rw [h5] at W1
      rw [h6] at W2
      rw [h7] at W3
      clear h5 h6 h7 H5
      go_wp2_with fail
      refine W1.out.mono ?_
      rintro e w2 ⟨rfl, rfl⟩
      go_wp2_with fail
      refine W2.out.mono ?_
      rintro e w2 ⟨rfl, rfl⟩
      go_wp2_with fail
      refine W3.out.mono ?_
      rintro e w2 ⟨rfl, rfl⟩
      go_wp2
      go_ret
      exact ⟨rfl, B1.out⟩

set_option maxRecDepth 100000 in
set_option maxHeartbeats 2000000 in
theorem Delays_in {A A' A'' : Option Addr} {n c n' c' n'' c'' : Nat} {xs ys us : List Int} (K : Nat) (w : World) (h : Ints w A n c xs) (h' : Ints w A' n' c' ys) (h'' : Ints w A'' n'' c'' us) (g0 : n ≤ 40) (g1 : n' ≤ 40) (g2 : n'' ≤ 30) (gk : K ≤ 40) (hx : seriesB xs = true) (hy : seriesB ys = true) (hu : validB us = true) :
    Calls Try.prog 8 #[.slice A n c, .slice A' n' c', .slice A'' n'' c'', .int .i64 K] w fun e w' => e = .returned (.bool true) ∧ Below w.heap.size w w' := by
  have hcap := h.cap
  have hmax := h.max
  have hcap' := h'.cap
  have hmax' := h'.max
  have hcap'' := h''.cap
  have hmax'' := h''.max
  have H := Lib.hid h
  have H' := Lib.hid h'
  have H'' := Lib.hid h''
  have HL := Lib.hid h.len
  have HL' := Lib.hid h'.len
  have HL'' := Lib.hid h''.len
  have v1 := fun W (I : Ints W A n c xs) => Series_ref (A := A) (n := n) (c := c) (zs := xs) W I
  have v2 := fun W (I : Ints W A' n' c' ys) => Series_ref (A := A') (n := n') (c := c') (zs := ys) W I
  have v3 := fun W (I : Ints W A'' n'' c'' us) => Valid_ref (A := A'') (n := n'') (c := c'') (zs := us) W I
  rw [hx] at v1
  rw [hy] at v2
  rw [hu] at v3
  have V1 := Lib.hid v1
  have V2 := Lib.hid v2
  have V3 := Lib.hid v3
  have HO1 := Lib.hid (ConvOk.mk hx hu)
  have HO2 := Lib.hid (ConvOk.mk hy hu)
  have dl := delay (k := K) (ConvOk.mk hx hu) (by rw [h.len]; exact g0) (by rw [h''.len]; exact g2) gk
  have DL := Lib.hid dl
  have t0 : ¬ (40 : Int) < n := by omega
  have t1 : ¬ (40 : Int) < n' := by omega
  have t2 : ¬ (30 : Int) < n'' := by omega
  have t3 : ¬ (K : Int) < 0 := by omega
  have t4 : ¬ (40 : Int) < K := by omega
  have lv : LagV xs (K : Int) = (lagL xs K, 0) := by unfold LagV; rw [hx, if_neg (by decide), if_neg (by omega), if_neg (by rw [h.len]; omega), Int.toNat_natCast]
  have LV := Lib.hid lv
  clear h h' h'' v1 v2 v3 hx hy hu dl lv
  go_enter Try.func8, Try.ntmps8
  go_wp2_with fail
  refine (awake_calls _).mono ?_
  rintro e w1 ⟨rfl, b1⟩
  have B1 := Lib.hid b1
  clear b1
  go_wp2_with fail
  refine (V1.out _ (H.out.below B1.out)).mono ?_
  rintro e w2 ⟨rfl, rfl⟩
  go_wp2_with fail
  refine (V2.out _ (H'.out.below B1.out)).mono ?_
  rintro e w2 ⟨rfl, rfl⟩
  go_wp2_with fail
  refine (V3.out _ (H''.out.below B1.out)).mono ?_
  rintro e w2 ⟨rfl, rfl⟩
  have p1 := Convolve_calls w1 (H.out.below B1.out) (H''.out.below B1.out)
  have P1 := Lib.hid p1
  clear p1
  go_wp2_with fail
  refine P1.out.mono ?_
  rintro e w2 ⟨X2, m2, c2, rfl, i2, b2, -⟩
  have B2 := Lib.hid (below_then B1.out b2 B1.out.size)
  have I2 := Lib.hid i2
  have p2 := Lag_calls (K : Int) w2 (H.out.below B2.out)
  rw [LV.out] at p2
  have P2 := Lib.hid p2
  clear p2 i2 b2
  go_wp2_with fail
  refine P2.out.mono ?_
  rintro e w3 ⟨X3, m3, c3, rfl, i3, b3, -⟩
  have B3 := Lib.hid (below_then B2.out b3 B2.out.size)
  have J2 := Lib.hid (I2.out.below b3)
  have p3 := Convolve_calls w3 i3 (H''.out.below B3.out)
  rw [DL.out.2.1] at p3
  have P3 := Lib.hid p3
  clear p3 i3 b3
  go_wp2_with fail
  refine P3.out.mono ?_
  rintro e w4 ⟨X4, m4, c4, rfl, i4, b4, -⟩
  have B4 := Lib.hid (below_then B3.out b4 B3.out.size)
  have K2 := Lib.hid (J2.out.below b4)
  have I4 := Lib.hid i4
  have p4 := Lag_calls (K : Int) w4 (J2.out.below b4)
  have P4 := Lib.hid p4
  clear p4 i4 b4
  go_wp2_with fail
  refine P4.out.mono ?_
  rintro e w5 ⟨X5, m5, c5, rfl, i5, b5, -⟩
  have B5 := Lib.hid (below_then B4.out b5 B4.out.size)
  have L2 := Lib.hid (K2.out.below b5)
  have J4 := Lib.hid (I4.out.below b5)
  have I5 := Lib.hid i5
  clear i5 b5
  rcases DL.out.1 with q1 | q1
  · have k1 : (((ConvV xs us).2 : Int) == 0) = true := by rw [beq_iff_eq]; exact q1
    have k1' : (((ConvV xs us).2 : Int) != 0) = false := by rw [bne_eq_false_iff_eq]; exact q1
    have E1 := Lib.hid q1
    by_cases hn : n = 0
    · have n0 : ¬ (0 : Int) < n := by omega
      clear q1 hn
      have a1 := Add_calls w5 (H.out.below B5.out) (H'.out.below B5.out)
      have A1 := Lib.hid a1
      clear a1
      go_wp2_with fail
      refine A1.out.mono ?_
      rintro e w6 ⟨X6, m6, c6, rfl, i6, b6, -⟩
      have I6 := Lib.hid i6
      have B6 := Lib.hid (below_then B5.out b6 B5.out.size)
      have XL6 := Lib.hid (L2.out.below b6)
      clear i6 b6
      by_cases q2 : (AddV xs ys).2 = 0
      · have k2 : (((AddV xs ys).2 : Int) != 0) = false := by rw [bne_eq_false_iff_eq]; exact q2
        have a2 := Convolve_calls w6 (H'.out.below B6.out) (H''.out.below B6.out)
        have A2 := Lib.hid a2
        have Q2 := Lib.hid q2
        clear a2 q2
        go_wp2_with fail
        refine A2.out.mono ?_
        rintro e w7 ⟨X7, m7, c7, rfl, i7, b7, -⟩
        have I7 := Lib.hid i7
        have B7 := Lib.hid (below_then B6.out b7 B6.out.size)
        have J6 := Lib.hid (I6.out.below b7)
        have a3 := Add_calls w7 (XL6.out.below b7) i7
        have A3 := Lib.hid a3
        clear a3 i7 b7
        go_wp2_with fail
        refine A3.out.mono ?_
        rintro e w8 ⟨X8, m8, c8, rfl, i8, b8, -⟩
        have I8 := Lib.hid i8
        have B8 := Lib.hid (below_then B7.out b8 B7.out.size)
        have a4 := Convolve_calls w8 (J6.out.below b8) (H''.out.below B8.out)
        have A4 := Lib.hid a4
        clear a4 i8 b8
        go_wp2_with fail
        refine A4.out.mono ?_
        rintro e w9 ⟨X9, m9, c9, rfl, i9, b9, -⟩
        have B9 := Lib.hid (below_then B8.out b9 B8.out.size)
        have J8 := Lib.hid (I8.out.below b9)
        have I9 := Lib.hid i9
        clear i9 b9
        by_cases q3 : (ConvV ys us).2 = 0
        · have k3 : (((ConvV ys us).2 : Int) != 0) = false := by rw [bne_eq_false_iff_eq]; exact q3
          have Q3 := Lib.hid q3
          clear q3
          by_cases q4 : (AddV (ConvV xs us).1 (ConvV ys us).1).2 = 0
          · have k4 : (((AddV (ConvV xs us).1 (ConvV ys us).1).2 : Int) != 0) = false := by rw [bne_eq_false_iff_eq]; exact q4
            have Q4 := Lib.hid q4
            clear q4
            by_cases q5 : (ConvV (AddV xs ys).1 us).2 = 0
            · have k5 : (((ConvV (AddV xs ys).1 us).2 : Int) != 0) = false := by rw [bne_eq_false_iff_eq]; exact q5
              have jt := joint HO1.out HO2.out (by rw [HL.out]; omega) (by rw [HL'.out]; omega) (by rw [HL''.out]; omega) E1.out Q2.out Q3.out Q4.out q5
              have z1 := conv_series HO1.out (by rw [HL.out]; omega) (by rw [HL''.out]; omega)
              have z2 := conv_series HO2.out (by rw [HL'.out]; omega) (by rw [HL''.out]; omega)
              have l4 := add_list z1.1 z2.1 Q4.out
              have l2 := add_list HO1.out.v HO2.out.v Q2.out
              have hsum : ConvOk (AddV xs ys).1 us := ⟨by rw [l2.1]; unfold seriesB; rw [l2.2, addL_length, HL.out, HL'.out, decide_eq_true (by omega)]; rfl, HO1.out.u⟩
              have z3 := conv_series hsum (by rw [l2.1, addL_length, HL.out, HL'.out]; omega) (by rw [HL''.out]; omega)
              have u1 : inB 1125899906842624 (AddV (ConvV xs us).1 (ConvV ys us).1).1 = true := by rw [l4.1]; exact l4.2
              have u2 := (series_parts z3.1).2
              have v1 : (AddV (ConvV xs us).1 (ConvV ys us).1).1.length ≤ 300 := by rw [l4.1, addL_length]; omega
              have sm1 := Sum_ref w9 J8.out (fun k hk => sum_bd (N := 1000) u1 (by omega) (by omega) k (by rw [J8.out.len]; exact hk))
              have sm2 := Sum_ref w9 I9.out (fun k hk => sum_bd (N := 1000) u2 (by omega) (by omega) k (by rw [I9.out.len]; exact hk))
              rw [jt.2.1] at sm1
              have JT := Lib.hid jt.2.2
              rw [HL''.out] at JT
              have hlen : m8 = m9 := by rw [← J8.out.len, ← I9.out.len]; exact jt.1
              have U1 := Lib.hid (fun t ht => inB_el u1 (k := t) ht)
              have U2 := Lib.hid (fun t ht => inB_el u2 (k := t) ht)
              rw [J8.out.len] at U1
              rw [I9.out.len] at U2
              rw [J8.out.len] at v1
              have VB := Lib.hid v1
              have Q5 := Lib.hid q5
              have SM1 := Lib.hid sm1
              have SM2 := Lib.hid sm2
              clear jt z1 z2 l4 l2 hsum z3 u1 u2 q5 sm1 sm2 v1
              generalize sumL (ConvV (AddV xs ys).1 us).1 = sv at *
              generalize (AddV (ConvV xs us).1 (ConvV ys us).1).1 = bo at *
              generalize (ConvV (AddV xs ys).1 us).1 = jo at *
              subst hlen
              have hc8 := J8.out.cap
              have hx8 := J8.out.max
              have hc9 := I9.out.cap
              have hx9 := I9.out.max
              go_wp2_with fail
              refine SM1.out.mono ?_
              rintro e w10 ⟨rfl, rfl⟩
              go_wp2_with fail
              refine SM2.out.mono ?_
              rintro e w10 ⟨rfl, rfl⟩
              go_wp2
              go_loopw [167] (fun i wr => ∃ t : Nat, t ≤ m8 ∧ i = .int .i64 t ∧ ∃ d, wr = w9.drewN d) (fun i _ => m8 - (intOf i).toNat)
              case atStart => exact ⟨0, Nat.zero_le _, rfl, 0, rfl⟩
              case round =>
                obtain ⟨t, ht, rfl, d, rfl⟩ := hrel
                by_cases hlt : t < m8
                · obtain ⟨ad8, hA8, hl8, hcl8⟩ := J8.out.at_ hlt
                  obtain ⟨ad9, hA9, hl9, hcl9⟩ := I9.out.at_ hlt
                  subst hA8
                  subst hA9
                  have r1 := U1.out t hlt
                  have r2 := U2.out t hlt
                  have r3 := JT.out t
                  obtain ⟨dd, hdd⟩ : ∃ dd : Int, el bo t - el jo t = dd := ⟨_, rfl⟩
                  rw [hdd] at r3
                  have e2 : IntKind.i64.wrap (el bo t - el jo t) = dd := by rw [hdd]; exact IntWalk.i64_in _ (by omega)
                  have e3 : (0 : Int) ≤ t := by omega
                  have e4 : (t : Int) < m8 := by omega
                  have e5 : ¬ dd < -(n'' : Int) := by omega
                  have e6 : ¬ (n'' : Int) < dd := by omega
                  clear r1 r2 r3 hdd
                  generalize el bo t = x1 at *
                  generalize el jo t = x2 at *
                  go_wp2
                  go_quiet (fail)
                  clear e2
                  go_wp2
                  go_roundw
                  case rel => exact ⟨t + 1, by omega, by go_num, _, rfl⟩
                  case measure => simp [intOf]; try omega
                · go_wp2
                  go_ret
                  exact ⟨rfl, below_drewN B9.out _⟩
            · have k5 : (((ConvV (AddV xs ys).1 us).2 : Int) != 0) = true := by rw [bne_iff_ne]; exact q5
              clear q5
              go_wp2
              go_ret
              exact ⟨rfl, B9.out⟩
          · have k4 : (((AddV (ConvV xs us).1 (ConvV ys us).1).2 : Int) != 0) = true := by rw [bne_iff_ne]; exact q4
            clear q4
            go_wp2
            go_ret
            exact ⟨rfl, B9.out⟩
        · have k3 : (((ConvV ys us).2 : Int) != 0) = true := by rw [bne_iff_ne]; exact q3
          clear q3
          go_wp2
          go_ret
          exact ⟨rfl, B9.out⟩
      · have k2 : (((AddV xs ys).2 : Int) != 0) = true := by rw [bne_iff_ne]; exact q2
        clear q2
        go_wp2
        go_ret
        exact ⟨rfl, B6.out⟩
    · have n0 : (0 : Int) < n := by omega
      have z1 := conv_series HO1.out (by rw [HL.out]; omega) (by rw [HL''.out]; omega)
      have lz : LagV (ConvV xs us).1 (K : Int) = (lagL (ConvV xs us).1 K, 0) := by unfold LagV; rw [z1.1, if_neg (by decide), if_neg (by omega), if_neg (by omega), Int.toNat_natCast]
      have hyz := DL.out.2.2 q1 (by rw [HL.out]; omega)
      rw [lz] at I5
      rw [hyz] at J4
      have k6 : (((LagV (ConvV xs us).1 (K : Int)).2 : Int) != 0) = false := by rw [lz]; rfl
      have eq := equal_calls w5 J4.out I5.out
      rw [decide_eq_true rfl] at eq
      have EQ := Lib.hid eq
      clear q1 hn z1 lz hyz eq
      go_wp2_with fail
      refine EQ.out.mono ?_
      rintro e w5b ⟨rfl, b5b⟩
      have B5b := Lib.hid (below_then B5.out b5b B5.out.size)
      have L2b := Lib.hid (L2.out.below b5b)
      clear b5b
      have a1 := Add_calls w5b (H.out.below B5b.out) (H'.out.below B5b.out)
      have A1 := Lib.hid a1
      clear a1
      go_wp2_with fail
      refine A1.out.mono ?_
      rintro e w6 ⟨X6, m6, c6, rfl, i6, b6, -⟩
      have I6 := Lib.hid i6
      have B6 := Lib.hid (below_then B5b.out b6 B5b.out.size)
      have XL6 := Lib.hid (L2b.out.below b6)
      clear i6 b6
      by_cases q2 : (AddV xs ys).2 = 0
      · have k2 : (((AddV xs ys).2 : Int) != 0) = false := by rw [bne_eq_false_iff_eq]; exact q2
        have a2 := Convolve_calls w6 (H'.out.below B6.out) (H''.out.below B6.out)
        have A2 := Lib.hid a2
        have Q2 := Lib.hid q2
        clear a2 q2
        go_wp2_with fail
        refine A2.out.mono ?_
        rintro e w7 ⟨X7, m7, c7, rfl, i7, b7, -⟩
        have I7 := Lib.hid i7
        have B7 := Lib.hid (below_then B6.out b7 B6.out.size)
        have J6 := Lib.hid (I6.out.below b7)
        have a3 := Add_calls w7 (XL6.out.below b7) i7
        have A3 := Lib.hid a3
        clear a3 i7 b7
        go_wp2_with fail
        refine A3.out.mono ?_
        rintro e w8 ⟨X8, m8, c8, rfl, i8, b8, -⟩
        have I8 := Lib.hid i8
        have B8 := Lib.hid (below_then B7.out b8 B7.out.size)
        have a4 := Convolve_calls w8 (J6.out.below b8) (H''.out.below B8.out)
        have A4 := Lib.hid a4
        clear a4 i8 b8
        go_wp2_with fail
        refine A4.out.mono ?_
        rintro e w9 ⟨X9, m9, c9, rfl, i9, b9, -⟩
        have B9 := Lib.hid (below_then B8.out b9 B8.out.size)
        have J8 := Lib.hid (I8.out.below b9)
        have I9 := Lib.hid i9
        clear i9 b9
        by_cases q3 : (ConvV ys us).2 = 0
        · have k3 : (((ConvV ys us).2 : Int) != 0) = false := by rw [bne_eq_false_iff_eq]; exact q3
          have Q3 := Lib.hid q3
          clear q3
          by_cases q4 : (AddV (ConvV xs us).1 (ConvV ys us).1).2 = 0
          · have k4 : (((AddV (ConvV xs us).1 (ConvV ys us).1).2 : Int) != 0) = false := by rw [bne_eq_false_iff_eq]; exact q4
            have Q4 := Lib.hid q4
            clear q4
            by_cases q5 : (ConvV (AddV xs ys).1 us).2 = 0
            · have k5 : (((ConvV (AddV xs ys).1 us).2 : Int) != 0) = false := by rw [bne_eq_false_iff_eq]; exact q5
              have jt := joint HO1.out HO2.out (by rw [HL.out]; omega) (by rw [HL'.out]; omega) (by rw [HL''.out]; omega) E1.out Q2.out Q3.out Q4.out q5
              have z1 := conv_series HO1.out (by rw [HL.out]; omega) (by rw [HL''.out]; omega)
              have z2 := conv_series HO2.out (by rw [HL'.out]; omega) (by rw [HL''.out]; omega)
              have l4 := add_list z1.1 z2.1 Q4.out
              have l2 := add_list HO1.out.v HO2.out.v Q2.out
              have hsum : ConvOk (AddV xs ys).1 us := ⟨by rw [l2.1]; unfold seriesB; rw [l2.2, addL_length, HL.out, HL'.out, decide_eq_true (by omega)]; rfl, HO1.out.u⟩
              have z3 := conv_series hsum (by rw [l2.1, addL_length, HL.out, HL'.out]; omega) (by rw [HL''.out]; omega)
              have u1 : inB 1125899906842624 (AddV (ConvV xs us).1 (ConvV ys us).1).1 = true := by rw [l4.1]; exact l4.2
              have u2 := (series_parts z3.1).2
              have v1 : (AddV (ConvV xs us).1 (ConvV ys us).1).1.length ≤ 300 := by rw [l4.1, addL_length]; omega
              have sm1 := Sum_ref w9 J8.out (fun k hk => sum_bd (N := 1000) u1 (by omega) (by omega) k (by rw [J8.out.len]; exact hk))
              have sm2 := Sum_ref w9 I9.out (fun k hk => sum_bd (N := 1000) u2 (by omega) (by omega) k (by rw [I9.out.len]; exact hk))
              rw [jt.2.1] at sm1
              have JT := Lib.hid jt.2.2
              rw [HL''.out] at JT
              have hlen : m8 = m9 := by rw [← J8.out.len, ← I9.out.len]; exact jt.1
              have U1 := Lib.hid (fun t ht => inB_el u1 (k := t) ht)
              have U2 := Lib.hid (fun t ht => inB_el u2 (k := t) ht)
              rw [J8.out.len] at U1
              rw [I9.out.len] at U2
              rw [J8.out.len] at v1
              have VB := Lib.hid v1
              have Q5 := Lib.hid q5
              have SM1 := Lib.hid sm1
              have SM2 := Lib.hid sm2
              clear jt z1 z2 l4 l2 hsum z3 u1 u2 q5 sm1 sm2 v1
              generalize sumL (ConvV (AddV xs ys).1 us).1 = sv at *
              generalize (AddV (ConvV xs us).1 (ConvV ys us).1).1 = bo at *
              generalize (ConvV (AddV xs ys).1 us).1 = jo at *
              subst hlen
              have hc8 := J8.out.cap
              have hx8 := J8.out.max
              have hc9 := I9.out.cap
              have hx9 := I9.out.max
              go_wp2_with fail
              refine SM1.out.mono ?_
              rintro e w10 ⟨rfl, rfl⟩
              go_wp2_with fail
              refine SM2.out.mono ?_
              rintro e w10 ⟨rfl, rfl⟩
              go_wp2
              go_loopw [167] (fun i wr => ∃ t : Nat, t ≤ m8 ∧ i = .int .i64 t ∧ ∃ d, wr = w9.drewN d) (fun i _ => m8 - (intOf i).toNat)
              case atStart => exact ⟨0, Nat.zero_le _, rfl, 0, rfl⟩
              case round =>
                obtain ⟨t, ht, rfl, d, rfl⟩ := hrel
                by_cases hlt : t < m8
                · obtain ⟨ad8, hA8, hl8, hcl8⟩ := J8.out.at_ hlt
                  obtain ⟨ad9, hA9, hl9, hcl9⟩ := I9.out.at_ hlt
                  subst hA8
                  subst hA9
                  have r1 := U1.out t hlt
                  have r2 := U2.out t hlt
                  have r3 := JT.out t
                  obtain ⟨dd, hdd⟩ : ∃ dd : Int, el bo t - el jo t = dd := ⟨_, rfl⟩
                  rw [hdd] at r3
                  have e2 : IntKind.i64.wrap (el bo t - el jo t) = dd := by rw [hdd]; exact IntWalk.i64_in _ (by omega)
                  have e3 : (0 : Int) ≤ t := by omega
                  have e4 : (t : Int) < m8 := by omega
                  have e5 : ¬ dd < -(n'' : Int) := by omega
                  have e6 : ¬ (n'' : Int) < dd := by omega
                  clear r1 r2 r3 hdd
                  generalize el bo t = x1 at *
                  generalize el jo t = x2 at *
                  go_wp2
                  go_quiet (fail)
                  clear e2
                  go_wp2
                  go_roundw
                  case rel => exact ⟨t + 1, by omega, by go_num, _, rfl⟩
                  case measure => simp [intOf]; try omega
                · go_wp2
                  go_ret
                  exact ⟨rfl, below_drewN B9.out _⟩
            · have k5 : (((ConvV (AddV xs ys).1 us).2 : Int) != 0) = true := by rw [bne_iff_ne]; exact q5
              clear q5
              go_wp2
              go_ret
              exact ⟨rfl, B9.out⟩
          · have k4 : (((AddV (ConvV xs us).1 (ConvV ys us).1).2 : Int) != 0) = true := by rw [bne_iff_ne]; exact q4
            clear q4
            go_wp2
            go_ret
            exact ⟨rfl, B9.out⟩
        · have k3 : (((ConvV ys us).2 : Int) != 0) = true := by rw [bne_iff_ne]; exact q3
          clear q3
          go_wp2
          go_ret
          exact ⟨rfl, B9.out⟩
      · have k2 : (((AddV xs ys).2 : Int) != 0) = true := by rw [bne_iff_ne]; exact q2
        clear q2
        go_wp2
        go_ret
        exact ⟨rfl, B6.out⟩
  · have k1 : (((ConvV xs us).2 : Int) == 0) = false := by rw [q1]; rfl
    have k1' : (((ConvV xs us).2 : Int) != 0) = true := by rw [q1]; rfl
    have a1 := Add_calls w5 (H.out.below B5.out) (H'.out.below B5.out)
    have A1 := Lib.hid a1
    clear a1 q1
    go_wp2_with fail
    refine A1.out.mono ?_
    rintro e w6 ⟨X6, m6, c6, rfl, i6, b6, -⟩
    have B6 := Lib.hid (below_then B5.out b6 B5.out.size)
    clear i6 b6
    go_wp2
    go_ret
    exact ⟨rfl, B6.out⟩

theorem Delays_calls {A A' A'' : Option Addr} {n c n' c' n'' c'' : Nat} {xs ys us : List Int} (k : Int) (w : World) (h : Ints w A n c xs) (h' : Ints w A' n' c' ys) (h'' : Ints w A'' n'' c'' us) :
    Calls Try.prog 8 #[.slice A n c, .slice A' n' c', .slice A'' n'' c'', .int .i64 k] w fun e w' => e = .returned (.bool true) ∧ Below w.heap.size w w' := by
  by_cases hyes : (n : Int) ≤ 40 ∧ (n' : Int) ≤ 40 ∧ (n'' : Int) ≤ 30 ∧ 0 ≤ k ∧ k ≤ 40 ∧ seriesB xs = true ∧ seriesB ys = true ∧ validB us = true
  · obtain ⟨g0, g1, g2, g3, g4, g5, g6, g7⟩ := hyes
    obtain ⟨K, rfl⟩ : ∃ K : Nat, k = K := ⟨k.toNat, by omega⟩
    exact Delays_in K w h h' h'' (by omega) (by omega) (by omega) (by omega) g5 g6 g7
  · exact Delays_out k w h h' h'' hyes
end Go.Proofs.Ytlkocedhhdknoaa
