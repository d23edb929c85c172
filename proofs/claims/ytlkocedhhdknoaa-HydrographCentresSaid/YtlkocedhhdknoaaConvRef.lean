/- Convolve of the reference; Convolve of both at any lists. -/
import Derived.Test.YtlkocedhhdknoaaConv
import Derived.Test.YtlkocedhhdknoaaShareRef
import Derived.RegionTactic
import Derived.IntWalk
namespace Go.Proofs.Ytlkocedhhdknoaa
open Go.RowKit
set_option linter.unusedVariables false

theorem big_of {vs us : List Int} (h : ConvOk vs us) {k : Nat} (hk : k < vs.length + us.length - 1) (hb : 1125899906842624 < cvF vs us vs.length k) : inB 1125899906842624 (cvL vs us) = false := by
  have : el (cvL vs us) k = cvF vs us vs.length k := el_fl _ hk
  exact in_high (by rw [cvL_length]; exact hk) (by rw [this]; exact hb)
theorem small_of {vs us : List Int} (h : ConvOk vs us) (hs : ∀ k, k < vs.length + us.length - 1 → ¬ 1125899906842624 < cvF vs us vs.length k) : inB 1125899906842624 (cvL vs us) = true := by
  apply in_all
  intro k hk
  rw [cvL_length] at hk
  have : el (cvL vs us) k = cvF vs us vs.length k := el_fl _ hk
  have h1 := cvF_le h (Nat.le_refl _) k
  unfold badB
  rw [this, decide_eq_false (by omega), decide_eq_false (hs k hk)]; rfl

set_option maxHeartbeats 4000000 in
set_option maxRecDepth 100000 in
theorem Convolve_inR {A A' : Option Addr} {n c n' c' : Nat} {vs us : List Int} (w : World) (h : Ints w A n c vs) (h' : Ints w A' n' c' us) (hok : ConvOk vs us) (hn : 0 < n) (hN : n + n' - 1 ≤ 10000) :
    Calls Try.prog 21 #[.slice A n c, .slice A' n' c'] w (RetL (cvR vs us).1 (cvR vs us).2 w) := by
  obtain ⟨V, hV⟩ : ∃ V, cvR vs us = V := ⟨_, rfl⟩
  rw [hV]
  unfold cvR at hV
  have HV0 := Lib.hid hV
  clear hV
  have hl := h.len
  have hl' := h'.len
  have hcap := h.cap
  have hmax := h.max
  have hcap' := h'.cap
  have hmax' := h'.max
  obtain ⟨hu0, hu1, huin, hulast⟩ := valid_parts hok.u
  rw [hl'] at hu0 hu1
  obtain ⟨hv0, hvin⟩ := series_parts hok.v
  rw [hl] at hv0
  obtain ⟨N, hNN⟩ : ∃ N : Nat, (n : Int) + n' - 1 = N := ⟨n + n' - 1, by omega⟩
  have hN1 : N ≤ 10000 := by omega
  have hNe : n + n' - 1 = N := by omega
  have s1 := Series_ref w h
  rw [hok.v] at s1
  have s2 := Valid_ref w h'
  rw [hok.u] at s2
  have I := Lib.hid h
  have I' := Lib.hid h'
  have HL := Lib.hid hl
  have HL' := Lib.hid hl'
  have HOK := Lib.hid hok
  have S1 := Lib.hid s1
  have S2 := Lib.hid s2
  have HN := Lib.hid hNe
  have n0 : ((n : Int) == 0) = false := by rw [beq_eq_false_iff_ne]; omega
  have n1 : ¬ (10000 : Int) < N := by omega
  have hmk := make_ints N (by omega)
  have HR := Lib.hid (Row.made w N)
  clear s1 s2 h h' hl hl' hok hulast huin hvin hNe hN
  go_enter Try.func21, Try.ntmps21
  go_wp2_with fail
  refine S1.out.mono ?_
  rintro e w1 ⟨rfl, rfl⟩
  go_wp2_with fail
  refine S2.out.mono ?_
  rintro e w1 ⟨rfl, rfl⟩
  go_wp2
  clear hmk
  go_loopw [8] (fun i wr => ∃ k : Nat, k ≤ n ∧ i = .int .i64 k ∧ Row wr w.heap.size N (cvF vs us k) ∧ Below w.heap.size w wr) (fun i _ => n - (intOf i).toNat)
  case atStart => exact ⟨0, Nat.zero_le _, rfl, HR.out, (Below.refl _ _).alloc (Nat.le_refl _) _⟩
  case round =>
    obtain ⟨k, hk, rfl, hrow, hbe⟩ := hrel
    obtain ⟨wo, rfl⟩ : ∃ wo : World, wo = wr := ⟨_, rfl⟩
    have HROW := Lib.hid hrow
    have HBE := Lib.hid hbe
    by_cases hlt : k < n
    · obtain ⟨ad, rfl, hl, hc⟩ := (I.out.below hbe).at_ hlt
      have hkl : k < vs.length := by rw [HL.out]; exact hlt
      obtain ⟨v0, v1⟩ := inB_el (series_parts HOK.out.v).2 hkl
      have sh := Share_inR (el vs k) wo (I'.out.below hbe) (conv_share HOK.out hkl)
      have SH := Lib.hid sh
      have HV : Hid (∀ j, j < n' → el (shL (el vs k) us) j = shF (el vs k) us j) := Lib.hid fun j hj => el_fl _ (by rw [HL'.out]; exact hj)
      have HVL : Hid ((shL (el vs k) us).length = n') := Lib.hid (by rw [shL_length, HL'.out])
      clear hrow hbe sh
      generalize hv : el vs k = v at *
      have HVV := Lib.hid hv
      clear hv
      go_wp2_with fail
      refine SH.out.mono ?_
      rintro e w3 ⟨B, m, d, rfl, hi, hb, hfr⟩
      obtain rfl : m = n' := by have := hi.len; rw [HVL.out] at this; omega
      have hdcap := hi.cap
      have hdmax := hi.max
      have HI := Lib.hid hi
      have HFR : Hid (∀ ad, B = some ad → ad.block ≠ w.heap.size) := Lib.hid fun ad e => by have := hfr ad e; have := HROW.out.lt; omega
      have HRW := Lib.hid ((HROW.out.below hb HROW.out.lt).congr (G := cvM vs us k 0) (fun m _ => (cvM_zero vs us k m).symm))
      have HBW := Lib.hid (HBE.out.trans (hb.mono HBE.out.size))
      clear hi hb hfr
      go_wp2
      go_loopw [11] (fun x wr => ∃ j : Nat, j ≤ m ∧ x = .int .i64 j ∧ Row wr w.heap.size N (cvM vs us k j) ∧ Ints wr B m d (shL v us) ∧ Below w.heap.size w wr) (fun x _ => m - (intOf x).toNat)
      case atStart => exact ⟨0, Nat.zero_le _, rfl, HRW.out, HI.out, HBW.out⟩
      case round =>
        obtain ⟨j, hj, rfl, hrow2, hi2, hbe2⟩ := hrel
        have HBE2 := Lib.hid hbe2
        have HI2 := Lib.hid hi2
        by_cases hlt2 : j < m
        · have hm1 := cvM_le HOK.out (show k < vs.length by rw [HL.out]; exact hlt) (show j ≤ us.length by rw [HL'.out]; omega) (k + j)
          have hs1 := conv_sh HOK.out (show k < vs.length by rw [HL.out]; exact hlt) (show j < us.length by rw [HL'.out]; exact hlt2)
          rw [HVV.out] at hs1
          have hq1 : k + j < N := by have := HN.out; omega
          have co := hrow2.cell (k + j) hq1
          have fo := hrow2.free (k + j)
          have HF := Lib.hid ((hrow2.drew.set (k + j) (cvM vs us k j (k + j) + shF v us j)).congr (G := cvM vs us k (j + 1)) (fun q _ => by rw [← HVV.out]; exact cvM_step vs us k j q))
          have HI3 := Lib.hid ((hi2.drewN 1).far (p := ⟨w.heap.size, k + j, none⟩) HFR.out (.int .i64 (cvM vs us k j (k + j) + shF v us j)))
          have HB3 := Lib.hid ((HBE2.out.drew).setCell (p := ⟨w.heap.size, k + j, none⟩) (by simp) (.int .i64 (cvM vs us k j (k + j) + shF v us j)))
          have e1 : IntKind.i64.wrap ((k : Int) + j) = ((k + j : Nat) : Int) := by rw [← Int.natCast_add]; exact IntWalk.i64_in _ (by omega)
          obtain ⟨ad', rfl, hl', hc'⟩ := hi2.at_ hlt2
          rw [HV.out j hlt2] at hc'
          obtain ⟨m0, m1⟩ := hm1
          obtain ⟨s0, s1⟩ := hs1
          clear hrow2 hi2 hbe2
          generalize cvM vs us k j (k + j) = a at *
          generalize shF v us j = x at *
          generalize k + j = q at *
          have e2 : IntKind.i64.wrap (a + x) = a + x := IntWalk.i64_in _ (by omega)
          have e3 : (0 : Int) ≤ q := by omega
          have e4 : (q : Int) < N := by omega
          have e5 : (0 : Int) ≤ j := by omega
          have e6 : (j : Int) < m := by omega
          go_wp2
          go_region
          clear e1 e2
          go_wp2
          go_roundw
          case rel => exact ⟨j + 1, by omega, by go_num, HF.out, HI3.out, HB3.out⟩
          case measure => simp [intOf]; try omega
        · obtain rfl : j = m := by omega
          have HF := Lib.hid (hrow2.congr (G := cvF vs us (k + 1)) (fun q _ => by rw [← cvM_all, HL'.out]))
          clear hrow2 hi2 hbe2
          go_wp2
          go_roundw
          case rel => exact ⟨k + 1, by omega, by go_num, HF.out, HBE2.out⟩
          case measure => simp [intOf]; try omega
    · obtain rfl : k = n := by omega
      have hI := hrow.ints (Nat.le_refl N) (by omega) (by omega) (fun m _ => cv_rng HOK.out (by rw [HL.out]; omega) m)
      have hE : fl N (cvF vs us k) = cvL vs us := by unfold cvL; rw [HL.out, HL'.out, HN.out]
      rw [hE] at hI
      have HII := Lib.hid hI
      clear hrow hbe hI hE
      go_wp2
      go_loop [12] (fun x => ∃ j : Nat, j ≤ N ∧ x = .int .i64 j ∧ ∀ i, i < j → ¬ 1125899906842624 < cvF vs us k i) (fun x => N - (intOf x).toNat)
      case atStart => exact ⟨0, Nat.zero_le _, rfl, fun i hi => absurd hi (by omega)⟩
      case round =>
        obtain ⟨j, hj, rfl, hno⟩ := hrel
        have HNO := Lib.hid hno
        clear hno
        by_cases hlt2 : j < N
        · have cj := HROW.out.cell j hlt2
          have HS : Hid (¬ 1125899906842624 < cvF vs us k j → ∀ i, i < j + 1 → ¬ 1125899906842624 < cvF vs us k i) := Lib.hid fun h i hi => by
            by_cases hij : i = j
            · subst hij; exact h
            · have := HNO.out i (by omega); omega
          have HT : Hid (1125899906842624 < cvF vs us k j → inB 1125899906842624 (cvL vs us) = false) := Lib.hid fun h => big_of HOK.out (k := j) (by rw [HL.out, HL'.out, HN.out]; exact hlt2) (by rw [HL.out]; exact h)
          generalize cvF vs us k j = x at *
          by_cases hb : 1125899906842624 < x
          · go_wp2
            go_returns
            have := HV0.out
            rw [HT.out hb, if_pos rfl] at this
            rw [← this]
            exact RetL.none_ HBE.out
          · go_wp2
            go_round
            case rel => exact ⟨j + 1, by omega, by go_num, HS.out (by omega)⟩
            case measure => simp [intOf]; try omega
        · obtain rfl : j = N := by omega
          go_wp2
          go_returns
          have := HV0.out
          rw [small_of HOK.out (fun i hi => by rw [HL.out]; have := HNO.out i (by rw [HL.out, HL'.out, HN.out] at hi; exact hi); omega), if_neg (by decide)] at this
          rw [← this]
          exact ⟨_, _, _, rfl, HII.out, HBE.out, fun ad e => by injection e with e; subst e; exact Nat.le_refl _⟩

set_option maxHeartbeats 2000000 in
theorem Convolve_calls {A A' : Option Addr} {n c n' c' : Nat} {vs us : List Int} (w : World) (h : Ints w A n c vs) (h' : Ints w A' n' c' us) :
    Calls Try.prog 20 #[.slice A n c, .slice A' n' c'] w (RetL (ConvV vs us).1 (ConvV vs us).2 w) := by
  obtain ⟨V, hV⟩ : ∃ V, ConvV vs us = V := ⟨_, rfl⟩
  rw [hV]
  unfold ConvV at hV
  have hl := h.len
  have hl' := h'.len
  have hcap := h.cap
  have hmax := h.max
  have hcap' := h'.cap
  have hmax' := h'.max
  rw [hl, hl'] at hV
  have s1 := series_calls w h
  cases hs : seriesB vs
  · rw [if_pos (.inl hs)] at hV
    rw [hs] at s1
    have S1 := Lib.hid s1
    have HV := Lib.hid hV
    clear s1 hV h h' hs hl hl'
    go_enter Try.func20, Try.ntmps20
    go_wp2_with fail
    refine S1.out.mono ?_
    rintro e w1 ⟨rfl, hb1⟩
    go_wp2
    go_returns
    rw [← HV.out]
    exact RetL.none_ (hb1)
  · rw [hs] at s1
    cases hv : validB us
    · rw [if_pos (.inr hv)] at hV
      have S1 := Lib.hid s1
      have HV := Lib.hid hV
      have H' := Lib.hid h'
      have HVB := Lib.hid hv
      clear s1 hV h hs hv hl hl' 
      go_enter Try.func20, Try.ntmps20
      go_wp2_with fail
      refine S1.out.mono ?_
      rintro e w1 ⟨rfl, hb1⟩
      have s2 := Valid_calls w1 (H'.out.below hb1)
      rw [HVB.out] at s2
      have S2 := Lib.hid s2
      clear s2 h'
      go_wp2_with fail
      refine S2.out.mono ?_
      rintro e w2 ⟨rfl, hb2⟩
      go_wp2
      go_returns
      rw [← HV.out]
      exact RetL.none_ (below_then hb1 hb2 hb1.size)
    · rw [if_neg (by rw [hs, hv]; decide)] at hV
      by_cases hn : n = 0
      · rw [if_pos hn] at hV
        have n0 : ((n : Int) == 0) = true := by rw [beq_iff_eq]; omega
        have S1 := Lib.hid s1
        have HV := Lib.hid hV
        have H' := Lib.hid h'
        have HVB := Lib.hid hv
        clear s1 hV h hs hv hl hl' hn
        go_enter Try.func20, Try.ntmps20
        go_wp2_with fail
        refine S1.out.mono ?_
        rintro e w1 ⟨rfl, hb1⟩
        have s2 := Valid_calls w1 (H'.out.below hb1)
        rw [HVB.out] at s2
        have S2 := Lib.hid s2
        clear s2 h'
        go_wp2_with fail
        refine S2.out.mono ?_
        rintro e w2 ⟨rfl, hb2⟩
        go_wp2
        go_returns
        rw [← HV.out]
        exact RetL.none_ (below_then hb1 hb2 hb1.size)
      · rw [if_neg hn] at hV
        by_cases hN : 10000 < n + n' - 1
        · rw [if_pos hN] at hV
          have n0 : ((n : Int) == 0) = false := by rw [beq_eq_false_iff_ne]; omega
          have n1 : (10000 : Int) < (n : Int) + n' - 1 := by omega
          have n2 : (n : Int) ≤ 10000 := by have := (series_parts hs).1; omega
          have n3 : (n' : Int) ≤ 1000 := by have := (valid_parts hv).2.1; omega
          have S1 := Lib.hid s1
          have HV := Lib.hid hV
          have H' := Lib.hid h'
          have HVB := Lib.hid hv
          clear s1 hV h hs hv hl hl' hn hN
          go_enter Try.func20, Try.ntmps20
          go_wp2_with fail
          refine S1.out.mono ?_
          rintro e w1 ⟨rfl, hb1⟩
          have s2 := Valid_calls w1 (H'.out.below hb1)
          rw [HVB.out] at s2
          have S2 := Lib.hid s2
          clear s2 h'
          go_wp2_with fail
          refine S2.out.mono ?_
          rintro e w2 ⟨rfl, hb2⟩
          go_wp2
          go_returns
          rw [← HV.out]
          exact RetL.none_ (below_then hb1 hb2 hb1.size)
        · rw [if_neg hN] at hV
          rw [← hV]
          exact Convolve_in w h h' ⟨hs, hv⟩ (by omega) (by omega)

set_option maxHeartbeats 2000000 in
theorem Convolve_ref {A A' : Option Addr} {n c n' c' : Nat} {vs us : List Int} (w : World) (h : Ints w A n c vs) (h' : Ints w A' n' c' us) :
    Calls Try.prog 21 #[.slice A n c, .slice A' n' c'] w (RetL (ConvV vs us).1 (ConvV vs us).2 w) := by
  obtain ⟨V, hV⟩ : ∃ V, ConvV vs us = V := ⟨_, rfl⟩
  rw [hV]
  unfold ConvV at hV
  have hl := h.len
  have hl' := h'.len
  have hcap := h.cap
  have hmax := h.max
  have hcap' := h'.cap
  have hmax' := h'.max
  rw [hl, hl'] at hV
  have s1 := Series_ref w h
  cases hs : seriesB vs
  · rw [if_pos (.inl hs)] at hV
    rw [hs] at s1
    have S1 := Lib.hid s1
    have HV := Lib.hid hV
    clear s1 hV h h' hs hl hl'
    go_enter Try.func21, Try.ntmps21
    go_wp2_with fail
    refine S1.out.mono ?_
    rintro e w1 ⟨rfl, rfl⟩
    go_wp2
    go_returns
    rw [← HV.out]
    exact RetL.none_ (Below.refl _ _)
  · rw [hs] at s1
    cases hv : validB us
    · rw [if_pos (.inr hv)] at hV
      have S1 := Lib.hid s1
      have HV := Lib.hid hV
      have H' := Lib.hid h'
      have HVB := Lib.hid hv
      clear s1 hV h hs hv hl hl' 
      go_enter Try.func21, Try.ntmps21
      go_wp2_with fail
      refine S1.out.mono ?_
      rintro e w1 ⟨rfl, rfl⟩
      have s2 := Valid_ref w H'.out
      rw [HVB.out] at s2
      have S2 := Lib.hid s2
      clear s2 h'
      go_wp2_with fail
      refine S2.out.mono ?_
      rintro e w2 ⟨rfl, rfl⟩
      go_wp2
      go_returns
      rw [← HV.out]
      exact RetL.none_ (Below.refl _ _)
    · rw [if_neg (by rw [hs, hv]; decide)] at hV
      by_cases hn : n = 0
      · rw [if_pos hn] at hV
        have n0 : ((n : Int) == 0) = true := by rw [beq_iff_eq]; omega
        have S1 := Lib.hid s1
        have HV := Lib.hid hV
        have H' := Lib.hid h'
        have HVB := Lib.hid hv
        clear s1 hV h hs hv hl hl' hn
        go_enter Try.func21, Try.ntmps21
        go_wp2_with fail
        refine S1.out.mono ?_
        rintro e w1 ⟨rfl, rfl⟩
        have s2 := Valid_ref w H'.out
        rw [HVB.out] at s2
        have S2 := Lib.hid s2
        clear s2 h'
        go_wp2_with fail
        refine S2.out.mono ?_
        rintro e w2 ⟨rfl, rfl⟩
        go_wp2
        go_returns
        rw [← HV.out]
        exact RetL.none_ (Below.refl _ _)
      · rw [if_neg hn] at hV
        by_cases hN : 10000 < n + n' - 1
        · rw [if_pos hN] at hV
          have n0 : ((n : Int) == 0) = false := by rw [beq_eq_false_iff_ne]; omega
          have n1 : (10000 : Int) < (n : Int) + n' - 1 := by omega
          have n2 : (n : Int) ≤ 10000 := by have := (series_parts hs).1; omega
          have n3 : (n' : Int) ≤ 1000 := by have := (valid_parts hv).2.1; omega
          have S1 := Lib.hid s1
          have HV := Lib.hid hV
          have H' := Lib.hid h'
          have HVB := Lib.hid hv
          clear s1 hV h hs hv hl hl' hn hN
          go_enter Try.func21, Try.ntmps21
          go_wp2_with fail
          refine S1.out.mono ?_
          rintro e w1 ⟨rfl, rfl⟩
          have s2 := Valid_ref w H'.out
          rw [HVB.out] at s2
          have S2 := Lib.hid s2
          clear s2 h'
          go_wp2_with fail
          refine S2.out.mono ?_
          rintro e w2 ⟨rfl, rfl⟩
          go_wp2
          go_returns
          rw [← HV.out]
          exact RetL.none_ (Below.refl _ _)
        · rw [if_neg hN] at hV
          rw [← hV]
          exact Convolve_inR w h h' ⟨hs, hv⟩ (by omega) (by omega)
end Go.Proofs.Ytlkocedhhdknoaa
