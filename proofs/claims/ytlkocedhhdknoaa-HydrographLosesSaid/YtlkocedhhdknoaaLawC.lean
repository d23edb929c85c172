/- The law HydrographLoses returns true. -/
import Derived.Test.YtlkocedhhdknoaaLosesLaw
import Derived.Test.YtlkocedhhdknoaaLawA
namespace Go.Proofs.Ytlkocedhhdknoaa
open Go.RowKit
set_option linter.unusedVariables false

theorem conv_v {vs us : List Int} (h : ConvOk vs us) (hm : vs.length ≤ 60) (hm2 : us.length ≤ 40) : ConvV vs us = if vs.length = 0 then ([], 0) else cvR vs us := by
  unfold ConvV
  rw [if_neg (by rw [h.v, h.u]; decide)]
  by_cases hn : vs.length = 0
  · rw [if_pos hn, if_pos hn]
  · rw [if_neg hn, if_neg hn, if_neg (by omega)]

set_option maxRecDepth 100000 in
set_option maxHeartbeats 600000 in
theorem Loses_in {A A' : Option Addr} {n c n' c' : Nat} {vs us : List Int} (w : World) (h : Ints w A n c vs) (h' : Ints w A' n' c' us) (hok : ConvOk vs us) (hm : n ≤ 60) (hm' : n' ≤ 40) :
    Calls Try.prog 5 #[.slice A n c, .slice A' n' c'] w fun e w' => e = .returned (.bool true) ∧ Below w.heap.size w w' := by
  have H := Lib.hid h
  have H' := Lib.hid h'
  have hl := h.len
  have hl' := h'.len
  have hcap := h.cap
  have hmax := h.max
  have hcap' := h'.cap
  have hmax' := h'.max
  have hu1 := (valid_parts hok.u).1
  rw [hl'] at hu1
  have s1 := fun W I => Series_ref (A := A) (n := n) (c := c) (zs := vs) W I
  rw [hok.v] at s1
  have s2 := fun W I => Valid_ref (A := A') (n := n') (c := c') (zs := us) W I
  rw [hok.u] at s2
  have cv := fun W I I' => Convolve_calls (A := A) (n := n) (c := c) (vs := vs) (A' := A') (n' := n') (c' := c') (us := us) W I I'
  rw [conv_v hok (by omega) (by omega)] at cv
  rw [hl] at cv
  have S1 := Lib.hid s1
  have S2 := Lib.hid s2
  have HL := Lib.hid hl
  have HL' := Lib.hid hl'
  have HOK := Lib.hid hok
  have n1 : ¬ (60 : Int) < n := by omega
  have n2 : ¬ (40 : Int) < n' := by omega
  clear h h' s1 s2 hl hl' hok
  by_cases hn : n = 0
  · rw [if_pos hn] at cv
    have CV := Lib.hid cv
    have z : ((n : Int) == 0) = true := by rw [beq_iff_eq]; omega
    clear cv hn
    go_enter Try.func5, Try.ntmps5
    go_wp2_with fail
    refine (awake_calls _).mono ?_
    rintro e w1 ⟨rfl, b1⟩
    have B1 := Lib.hid b1
    clear b1
    go_wp2_with fail
    refine (S1.out _ (H.out.below B1.out)).mono ?_
    rintro e w2 ⟨rfl, rfl⟩
    go_wp2_with fail
    refine (S2.out _ (H'.out.below B1.out)).mono ?_
    rintro e w2 ⟨rfl, rfl⟩
    go_wp2_with fail
    refine (CV.out _ (H.out.below B1.out) (H'.out.below B1.out)).mono ?_
    rintro e w2 ⟨A1, m1, c1, rfl, i1, b2, -⟩
    obtain rfl : m1 = 0 := by have := i1.len; simpa using this.symm
    have B2 := Lib.hid (below_then B1.out b2 B1.out.size)
    clear i1 b2
    go_wp2
    go_ret
    exact ⟨rfl, B2.out⟩
  · rw [if_neg hn] at cv
    unfold cvR at cv
    have z : ((n : Int) == 0) = false := by rw [beq_eq_false_iff_ne]; omega
    cases hin : inB 1125899906842624 (cvL vs us)
    · rw [hin, if_pos rfl] at cv
      have CV := Lib.hid cv
      clear cv hn hin
      go_enter Try.func5, Try.ntmps5
      go_wp2_with fail
      refine (awake_calls _).mono ?_
      rintro e w1 ⟨rfl, b1⟩
      have B1 := Lib.hid b1
      clear b1
      go_wp2_with fail
      refine (S1.out _ (H.out.below B1.out)).mono ?_
      rintro e w2 ⟨rfl, rfl⟩
      go_wp2_with fail
      refine (S2.out _ (H'.out.below B1.out)).mono ?_
      rintro e w2 ⟨rfl, rfl⟩
      go_wp2_with fail
      refine (CV.out _ (H.out.below B1.out) (H'.out.below B1.out)).mono ?_
      rintro e w2 ⟨A1, m1, c1, rfl, i1, b2, -⟩
      obtain rfl : m1 = 0 := by have := i1.len; simpa using this.symm
      have B2 := Lib.hid (below_then B1.out b2 B1.out.size)
      clear i1 b2
      go_wp2
      go_ret
      exact ⟨rfl, B2.out⟩
    · rw [hin, if_neg (by decide)] at cv
      have CV := Lib.hid cv
      have hlen : (cvL vs us).length = n + n' - 1 := by rw [cvL_length, HL.out, HL'.out]
      have hser : seriesB (cvL vs us) = true := by unfold seriesB; rw [hlen, hin, decide_eq_true (by omega)]; rfl
      have hsum := sum_conv HOK.out (by rw [HL.out]; omega)
      have hbx := sum_bd (N := 100) hin (by omega) (by omega)
      have hbv := sum_bd (N := 100) (series_parts HOK.out.v).2 (by rw [HL.out]; omega) (by omega)
      have hcl := conv_last HOK.out (by rw [HL.out]; omega) (by rw [HL.out]; omega)
      rw [HL'.out] at hcl
      have hcf := conv_first HOK.out (by rw [HL.out]; omega)
      have hsh := shareV_ok (conv_share HOK.out (show 0 < vs.length by rw [HL.out]; omega))
      obtain ⟨ad, hA, -, -⟩ := H.out.at_ (show 0 < n by omega)
      obtain ⟨ad', hA', -, -⟩ := H'.out.at_ (show 0 < n' by omega)
      subst hA
      subst hA'
      have hdr := fun W (I : Ints W (some ad') n' c' us) => I.drop (show n' - 1 ≤ n' by omega)
      rw [if_neg (show ¬ c' = n' - 1 by omega)] at hdr
      have htk := fun W (I : Ints W (some ad) n c vs) => I.take (show 1 ≤ n by omega)
      have HLEN := Lib.hid hlen
      have HSER := Lib.hid hser
      have HSUM := Lib.hid hsum
      have HBX := Lib.hid hbx
      have HBV := Lib.hid hbv
      have HCL := Lib.hid hcl
      have HCF := Lib.hid hcf
      have HSH := Lib.hid hsh
      have HDR := Lib.hid hdr
      have HTK := Lib.hid htk
      have HIN := Lib.hid hin
      have e1 : (n' : Int) - 1 = ((n' - 1 : Nat) : Int) := by omega
      have e2 : (1 : Int) ≤ n := by omega
      clear cv hn hin hlen hser hsum hbx hbv hcl hcf hsh hdr htk
      go_enter Try.func5, Try.ntmps5
      go_wp2_with fail
      refine (awake_calls _).mono ?_
      rintro e w1 ⟨rfl, b1⟩
      have B1 := Lib.hid b1
      clear b1
      go_wp2_with fail
      refine (S1.out _ (H.out.below B1.out)).mono ?_
      rintro e w2 ⟨rfl, rfl⟩
      go_wp2_with fail
      refine (S2.out _ (H'.out.below B1.out)).mono ?_
      rintro e w2 ⟨rfl, rfl⟩
      go_wp2_with fail
      refine (CV.out _ (H.out.below B1.out) (H'.out.below B1.out)).mono ?_
      rintro e w2 ⟨A1, m1, c1, rfl, i1, b2, -⟩
      obtain rfl : m1 = n + n' - 1 := by have := i1.len; rw [HLEN.out] at this; exact this.symm
      obtain ⟨N, hN⟩ : ∃ N : Nat, n + n' - 1 = N := ⟨_, rfl⟩
      rw [hN] at i1 ⊢
      have hNi : (n : Int) + n' - 1 = (N : Int) := by omega
      have I1 := Lib.hid i1
      have B2 := Lib.hid (below_then B1.out b2 B1.out.size)
      have hcx := i1.cap
      have hmx := i1.max
      have s3 := Series_ref w2 i1
      rw [HSER.out] at s3
      have s4 := Sum_ref w2 i1 (fun k hk => HBX.out k (by rw [HLEN.out]; omega))
      rw [HSUM.out] at s4
      have s5 := Sum_ref w2 (H.out.below B2.out) (fun k hk => HBV.out k (by rw [HL.out]; omega))
      have S3 := Lib.hid s3
      have S4 := Lib.hid s4
      have S5 := Lib.hid s5
      generalize sumL vs = sv at *
      clear i1 b2 s3 s4 s5 hN
      go_wp2_with fail
      refine S3.out.mono ?_
      rintro e w3 ⟨rfl, rfl⟩
      go_wp2_with fail
      refine S4.out.mono ?_
      rintro e w3 ⟨rfl, rfl⟩
      go_wp2_with fail
      refine S5.out.mono ?_
      rintro e w3 ⟨rfl, rfl⟩
      have y1 := Convolve_calls w2 (H.out.below B2.out) (HDR.out w2 (H'.out.below B2.out))
      rw [HCL.out] at y1
      have Y1 := Lib.hid y1
      clear y1
      go_wp2_with fail
      refine Y1.out.mono ?_
      rintro e w3 ⟨A2, m2, c2, rfl, i2, b3, -⟩
      have B3 := Lib.hid (below_then B2.out b3 B2.out.size)
      have I2 := Lib.hid i2
      have z1 := Convolve_calls w3 (HTK.out w3 (H.out.below B3.out)) (H'.out.below B3.out)
      rw [HCF.out] at z1
      have Z1 := Lib.hid z1
      clear z1 i2 b3
      go_wp2_with fail
      refine Z1.out.mono ?_
      rintro e w4 ⟨A3, m3, c3, rfl, i3, b4, -⟩
      have B4 := Lib.hid (below_then B3.out b4 B3.out.size)
      have I3 := Lib.hid i3
      have J2 := Lib.hid (I2.out.below b4)
      have u1 := Share_calls (el vs 0) w4 (H'.out.below B4.out)
      rw [HSH.out] at u1
      have U1 := Lib.hid u1
      obtain ⟨ad2, hA2, hlt0, hc0⟩ := (H.out.below B4.out).at_ (show 0 < n by omega)
      injection hA2 with hA2
      subst hA2
      rw [Addr.add_zero'] at hc0
      clear u1 i3 b4
      generalize el vs 0 = v0 at *
      go_wp2_with fail
      refine U1.out.mono ?_
      rintro e w5 ⟨A4, m4, c4, rfl, i4, b5, -⟩
      have B5 := Lib.hid (below_then B4.out b5 B4.out.size)
      have K2 := Lib.hid (J2.out.below b5)
      have K3 := Lib.hid (I3.out.below b5)
      have K4 := Lib.hid i4
      have q1 := equal_calls w5 K2.out (H.out.below B5.out)
      rw [decide_eq_true rfl] at q1
      have Q1 := Lib.hid q1
      clear i4 b5 q1 hc0
      go_wp2_with fail
      refine Q1.out.mono ?_
      rintro e w6 ⟨rfl, b6⟩
      have B6 := Lib.hid (below_then B5.out b6 B5.out.size)
      have q2 := equal_calls w6 (K3.out.below b6) (K4.out.below b6)
      rw [decide_eq_true rfl] at q2
      have Q2 := Lib.hid q2
      clear b6 q2
      go_wp2_with fail
      refine Q2.out.mono ?_
      rintro e w7 ⟨rfl, b7⟩
      have B7 := Lib.hid (below_then B6.out b7 B6.out.size)
      clear b7
      go_wp2
      go_ret
      exact ⟨rfl, B7.out⟩

set_option maxHeartbeats 600000 in
theorem Loses_calls {A A' : Option Addr} {n c n' c' : Nat} {vs us : List Int} (w : World) (h : Ints w A n c vs) (h' : Ints w A' n' c' us) :
    Calls Try.prog 5 #[.slice A n c, .slice A' n' c'] w fun e w' => e = .returned (.bool true) ∧ Below w.heap.size w w' := by
  have hmax := h.max
  have hcap := h.cap
  have hmax' := h'.max
  have hcap' := h'.cap
  by_cases c1 : 60 < (n : Int)
  · clear h h'
    go_enter Try.func5, Try.ntmps5
    go_wp2_with fail
    refine (awake_calls _).mono ?_
    rintro e w1 ⟨rfl, b1⟩
    have B1 := Lib.hid b1
    clear b1
    go_wp2
    go_ret
    exact ⟨rfl, B1.out⟩
  by_cases c2 : 40 < (n' : Int)
  · clear h h'
    go_enter Try.func5, Try.ntmps5
    go_wp2_with fail
    refine (awake_calls _).mono ?_
    rintro e w1 ⟨rfl, b1⟩
    have B1 := Lib.hid b1
    clear b1
    go_wp2
    go_ret
    exact ⟨rfl, B1.out⟩
  have H := Lib.hid h
  have H' := Lib.hid h'
  cases hv : seriesB vs
  · have s1 := fun W I => Series_ref (A := A) (n := n) (c := c) (zs := vs) W I
    rw [hv] at s1
    have S1 := Lib.hid s1
    clear s1 hv h h'
    go_enter Try.func5, Try.ntmps5
    go_wp2_with fail
    refine (awake_calls _).mono ?_
    rintro e w1 ⟨rfl, b1⟩
    have B1 := Lib.hid b1
    clear b1
    go_wp2_with fail
    refine (S1.out _ (H.out.below B1.out)).mono ?_
    rintro e w2 ⟨rfl, rfl⟩
    go_wp2
    go_ret
    exact ⟨rfl, B1.out⟩
  · cases hu : validB us
    · have s1 := fun W I => Series_ref (A := A) (n := n) (c := c) (zs := vs) W I
      rw [hv] at s1
      have S1 := Lib.hid s1
      have s2 := fun W I => Valid_ref (A := A') (n := n') (c := c') (zs := us) W I
      rw [hu] at s2
      have S2 := Lib.hid s2
      clear s1 s2 hv hu h h'
      go_enter Try.func5, Try.ntmps5
      go_wp2_with fail
      refine (awake_calls _).mono ?_
      rintro e w1 ⟨rfl, b1⟩
      have B1 := Lib.hid b1
      clear b1
      go_wp2_with fail
      refine (S1.out _ (H.out.below B1.out)).mono ?_
      rintro e w2 ⟨rfl, rfl⟩
      go_wp2_with fail
      refine (S2.out _ (H'.out.below B1.out)).mono ?_
      rintro e w2 ⟨rfl, rfl⟩
      go_wp2
      go_ret
      exact ⟨rfl, B1.out⟩
    · exact Loses_in w h h' ⟨hv, hu⟩ (by omega) (by omega)
end Go.Proofs.Ytlkocedhhdknoaa
