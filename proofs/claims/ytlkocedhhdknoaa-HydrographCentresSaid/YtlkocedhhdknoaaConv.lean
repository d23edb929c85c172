/- Convolve of the program. -/
import Derived.Test.YtlkocedhhdknoaaConvLaw
import Derived.Test.YtlkocedhhdknoaaShare
namespace Go.Proofs.Ytlkocedhhdknoaa
open Go.RowKit
set_option linter.unusedVariables false

theorem cv_rng {vs us : List Int} (h : ConvOk vs us) {i : Nat} (hi : i ≤ vs.length) (m : Nat) : -9223372036854775808 ≤ cvF vs us i m ∧ cvF vs us i m ≤ 9223372036854775807 := by
  have := cvF_le h hi m; omega

set_option maxHeartbeats 4000000 in
set_option maxRecDepth 100000 in
theorem Convolve_in {A A' : Option Addr} {n c n' c' : Nat} {vs us : List Int} (w : World) (h : Ints w A n c vs) (h' : Ints w A' n' c' us) (hok : ConvOk vs us) (hn : 0 < n) (hN : n + n' - 1 ≤ 10000) :
    Calls Try.prog 20 #[.slice A n c, .slice A' n' c'] w (RetL (cvR vs us).1 (cvR vs us).2 w) := by
  obtain ⟨V, hV⟩ : ∃ V, cvR vs us = V := ⟨_, rfl⟩
  rw [hV]
  unfold cvR at hV
  have HV0 := Lib.hid hV
  clear hV
  have hl := h.len
  have hl' := h'.len
  have hcap := h.cap
  have hmax := h.max
  have hcap' := h'.cap
  have hmax' := h'.max
  obtain ⟨hu0, hu1, huin, hulast⟩ := valid_parts hok.u
  rw [hl'] at hu0 hu1
  obtain ⟨hv0, hvin⟩ := series_parts hok.v
  rw [hl] at hv0
  obtain ⟨N, hNN⟩ : ∃ N : Nat, (n : Int) + n' - 1 = N := ⟨n + n' - 1, by omega⟩
  have hN1 : N ≤ 10000 := by omega
  have hNe : n + n' - 1 = N := by omega
  have s1 := series_calls w h
  rw [hok.v] at s1
  have H := Lib.hid h
  have H' := Lib.hid h'
  have HL := Lib.hid hl
  have HL' := Lib.hid hl'
  have HOK := Lib.hid hok
  have S1 := Lib.hid s1
  have HN := Lib.hid hNe
  have n0 : ((n : Int) == 0) = false := by rw [beq_eq_false_iff_ne]; omega
  have n1 : ¬ (10000 : Int) < N := by omega
  clear s1 h h' hl hl' hok hulast huin hvin hNe hN
  go_enter Try.func20, Try.ntmps20
  go_wp2_with fail
  refine S1.out.mono ?_
  rintro e w1 ⟨rfl, hb1⟩
  have s2 := Valid_calls w1 (H'.out.below hb1)
  rw [HOK.out.u] at s2
  have S2 := Lib.hid s2
  clear s2
  go_wp2_with fail
  refine S2.out.mono ?_
  rintro e w2 ⟨rfl, hb2⟩
  have I := Lib.hid ((H.out.below hb1).below hb2)
  have I' := Lib.hid ((H'.out.below hb1).below hb2)
  have HB := Lib.hid (below_then hb1 hb2 hb1.size)
  have hsz := Nat.le_trans hb1.size hb2.size
  have HSZ := Lib.hid hsz
  have hmk := make_ints N (by omega)
  have HR := Lib.hid (Row.made w2 N)
  clear hb1 hb2 S1 S2 H H' hsz
  go_wp2
  clear hmk
  go_loopw [43] (fun i wr => ∃ k : Nat, k ≤ n ∧ i = .int .i64 k ∧ Row wr w2.heap.size N (cvF vs us k) ∧ Below w2.heap.size w2 wr) (fun i _ => n - (intOf i).toNat)
  case atStart => exact ⟨0, Nat.zero_le _, rfl, HR.out, (Below.refl _ _).alloc (Nat.le_refl _) _⟩
  case round =>
    obtain ⟨k, hk, rfl, hrow, hbe⟩ := hrel
    obtain ⟨wo, rfl⟩ : ∃ wo : World, wo = wr := ⟨_, rfl⟩
    have HROW := Lib.hid hrow
    have HBE := Lib.hid hbe
    by_cases hlt : k < n
    · obtain ⟨ad, rfl, hl, hc⟩ := (I.out.below hbe).at_ hlt
      have hkl : k < vs.length := by rw [HL.out]; exact hlt
      obtain ⟨v0, v1⟩ := inB_el (series_parts HOK.out.v).2 hkl
      by_cases hz : el vs k = 0
      · have HS := Lib.hid (hrow.congr (G := cvF vs us (k + 1)) (fun m _ => cv_skip hz m))
        rw [hz] at hc
        clear hrow hbe hz
        go_wp2
        go_roundw
        case rel => exact ⟨k + 1, by omega, by go_num, HS.out, HBE.out⟩
        case measure => simp [intOf]; try omega
      · have hz' : ((el vs k : Int) == 0) = false := by rw [beq_eq_false_iff_ne]; exact hz
        have sh := Share_in (el vs k) wo (I'.out.below hbe) (conv_share HOK.out hkl)
        have SH := Lib.hid sh
        have HV : Hid (∀ j, j < n' → el (shL (el vs k) us) j = shF (el vs k) us j) := Lib.hid fun j hj => el_fl _ (by rw [HL'.out]; exact hj)
        have HVL : Hid ((shL (el vs k) us).length = n') := Lib.hid (by rw [shL_length, HL'.out])
        clear hrow hbe hz sh
        generalize hv : el vs k = v at *
        have HVV := Lib.hid hv
        clear hv
        go_wp2_with fail
        refine SH.out.mono ?_
        rintro e w3 ⟨B, m, d, rfl, hi, hb, hfr⟩
        obtain rfl : m = n' := by have := hi.len; rw [HVL.out] at this; omega
        have hdcap := hi.cap
        have hdmax := hi.max
        have HI := Lib.hid hi
        have HFR : Hid (∀ ad, B = some ad → ad.block ≠ w2.heap.size) := Lib.hid fun ad e => by have := hfr ad e; have := HROW.out.lt; omega
        have HRW := Lib.hid ((HROW.out.below hb HROW.out.lt).congr (G := cvM vs us k 0) (fun m _ => (cvM_zero vs us k m).symm))
        have HBW := Lib.hid (HBE.out.trans (hb.mono HBE.out.size))
        clear hi hb hfr
        go_wp2
        go_loopw [61] (fun x wr => ∃ j : Nat, j ≤ m ∧ x = .int .i64 j ∧ Row wr w2.heap.size N (cvM vs us k j) ∧ Ints wr B m d (shL v us) ∧ Below w2.heap.size w2 wr) (fun x _ => m - (intOf x).toNat)
        case atStart => exact ⟨0, Nat.zero_le _, rfl, HRW.out, HI.out, HBW.out⟩
        case round =>
          obtain ⟨j, hj, rfl, hrow2, hi2, hbe2⟩ := hrel
          have HBE2 := Lib.hid hbe2
          have HI2 := Lib.hid hi2
          by_cases hlt2 : j < m
          · have hm1 := cvM_le HOK.out (show k < vs.length by rw [HL.out]; exact hlt) (show j ≤ us.length by rw [HL'.out]; omega) (k + j)
            have hs1 := conv_sh HOK.out (show k < vs.length by rw [HL.out]; exact hlt) (show j < us.length by rw [HL'.out]; exact hlt2)
            rw [HVV.out] at hs1
            have co := hrow2.cell (k + j) (by have := HN.out; omega)
            have fo := hrow2.free (k + j)
            have HF := Lib.hid ((hrow2.set (k + j) (cvM vs us k j (k + j) + shF v us j)).congr (G := cvM vs us k (j + 1)) (fun q _ => by rw [← HVV.out]; exact cvM_step vs us k j q))
            have HI3 := Lib.hid (hi2.far (p := ⟨w2.heap.size, k + j, none⟩) HFR.out (.int .i64 (cvM vs us k j (k + j) + shF v us j)))
            obtain ⟨ad', rfl, hl', hc'⟩ := hi2.at_ hlt2
            rw [HV.out j hlt2] at hc'
            obtain ⟨m0, m1⟩ := hm1
            obtain ⟨s0, s1⟩ := hs1
            clear hrow2 hi2 hbe2
            generalize cvM vs us k j (k + j) = a at *
            generalize shF v us j = x at *
            go_wp2
            go_roundw
            case rel => exact ⟨j + 1, by omega, by go_num, HF.out, HI3.out, HBE2.out.setCell (by simp) _⟩
            case measure => simp [intOf]; try omega
          · obtain rfl : j = m := by omega
            have HF := Lib.hid (hrow2.congr (G := cvF vs us (k + 1)) (fun q _ => by rw [← cvM_all, HL'.out]))
            clear hrow2 hi2 hbe2
            go_wp2
            go_roundw
            case rel => exact ⟨k + 1, by omega, by go_num, HF.out, HBE2.out⟩
            case measure => simp [intOf]; try omega
    · obtain rfl : k = n := by omega
      have hI := hrow.ints (Nat.le_refl N) (by omega) (by omega) (fun m _ => cv_rng HOK.out (by rw [HL.out]; omega) m)
      have hE : fl N (cvF vs us k) = cvL vs us := by unfold cvL; rw [HL.out, HL'.out, HN.out]
      rw [hE] at hI
      have wc := within_calls 1125899906842624 wo hI
      have HWC := Lib.hid wc
      have HII := Lib.hid (hI.alloc (.cells #[.int .i64 1125899906842624] 3))
      have HB2 := Lib.hid ((HB.out.trans (HBE.out.mono HSZ.out)).alloc (Nat.le_trans HSZ.out HBE.out.size) (.cells #[.int .i64 1125899906842624] 3))
      clear hrow hbe hI wc hE
      cases hin : inB 1125899906842624 (cvL vs us)
      · have HV1 : Hid (([], 5) = V) := by have := HV0.out; rwa [hin, if_pos rfl] at this
        rw [hin] at HWC
        clear hin
        go_wp2_with fail
        refine HWC.out.mono ?_
        rintro e w' ⟨rfl, rfl⟩
        go_wp2
        go_returns
        rw [← HV1.out]
        exact RetL.none_ HB2.out
      · have HV1 : Hid ((cvL vs us, 0) = V) := by have := HV0.out; rwa [hin, if_neg (by decide)] at this
        rw [hin] at HWC
        clear hin
        go_wp2_with fail
        refine HWC.out.mono ?_
        rintro e w' ⟨rfl, rfl⟩
        go_wp2
        go_returns
        rw [← HV1.out]
        exact ⟨_, _, _, rfl, HII.out, HB2.out, fun ad e => by injection e with e; subst e; exact HSZ.out⟩
end Go.Proofs.Ytlkocedhhdknoaa
