/- The law ArchiveCuts returns true. -/
import Derived.Test.YtchnfahgmceohaaAwake
import Derived.Test.YtchnfahgmceohaaNotV
import Derived.Test.YtchnfahgmceohaaCutLaw
import Derived.Test.YtchnfahgmceohaaDec
import Derived.Test.YtchnfahgmceohaaSameAll
namespace Go.Proofs.Ytchnfahgmceohaa
open Go.RowKit
set_option linter.unusedVariables false

set_option maxRecDepth 100000 in
set_option maxHeartbeats 4000000 in
theorem Cuts_calls {A : Option Addr} {n c : Nat} {ss : List SerD} (cut : Int) (w : World) (h : Sers w A n c ss) (hc : 0 ≤ cut ∧ cut ≤ 65535) :
    Calls Try.prog 4 #[.slice A n c, .int .u16 cut] w fun e w' => e = .returned (.bool true) ∧ Below w.heap.size w w' := by
  have lg := fun W (I : Sers W A n c ss) => large_calls W I
  have cf := fun W (I : Sers W A n c ss) => containsFunc_sers 15 notD W I (.inr (.inl rfl)) (fun s A n c W I => cuts1_calls s W I)
  have hcap := h.cap
  have hmax := h.max
  have hlen := h.len
  have H := Lib.hid h
  by_cases h4 : 4 < (n : Int)
  · clear h lg cf hlen
    go_enter Try.func4, Try.ntmps4
    go_wp2_with fail
    refine (awake_calls _).mono ?_
    rintro e w1 ⟨rfl, b1⟩
    have B1 := Lib.hid b1
    clear b1
    go_wp2
    go_ret
    exact ⟨rfl, B1.out⟩
  · cases hq : largeB ss
    · cases hn : ss.any notD
      · have hv := any_bad hn
        have hd := few_small hq (by omega) hv
        have hfr := few_of hq
        obtain ⟨l0, l1⟩ := enc_len8 hd (by omega)
        have e1 := fun W (I : Sers W A n c ss) => Encode_calls W I hfr
        rw [EncV_of hv (by omega)] at e1
        have e2 : ∀ k, k ≤ n → ∀ W, Sers W A n c ss → Calls Try.prog 11 #[.slice A k c] W (RetZ (encL (ss.take k)) 0 W) := fun k hk W I => by
          have h1 := Encode_calls W (I.take hk) (hfr.take (by omega) k)
          rw [EncV_of (fun s hs => hv s (List.mem_of_mem_take hs)) (by rw [List.length_take]; omega)] at h1
          exact h1
        obtain ⟨N, hN⟩ : ∃ N, (encL ss).length = N := ⟨_, rfl⟩
        have hm0 := Int.emod_nonneg cut (show ((N : Int) + 1) ≠ 0 by omega)
        have hm1 := Int.emod_lt_of_pos cut (show 0 < ((N : Int) + 1) by omega)
        have hN4 : (N : Int) ≤ 40000 := by omega
        obtain ⟨m, hm⟩ := Int.eq_ofNat_of_zero_le hm0
        have hmN : m ≤ N := by omega
        clear hm0 hm1
        have HIT : Hid (∀ k, k ≤ n → (encL (ss.take k)).length = m → decL ((encL ss).take m) = (ss.take k, 0)) := Lib.hid fun k hk e => cut_hit hv (by omega) (by omega) (by omega) e
        have MISS : Hid ((∀ k, k ≤ n → ¬ (encL (ss.take k)).length = m) → decL ((encL ss).take m) = ([], 8) ∨ m < 3 ∧ decL ((encL ss).take m) = ([], 7)) := Lib.hid fun e => cut_miss hv (by omega) (by omega) (by omega) (fun k hk => e k (by omega))
        have de := fun W A n c (I : Byts W A n c ((encL ss).take m)) => Decode_calls W I
        generalize hX : decL ((encL ss).take m) = X at *
        obtain ⟨xs, er⟩ := X
        rw [hn] at cf
        rw [hq] at lg
        have LG := Lib.hid lg
        have CF := Lib.hid cf
        have E1 := Lib.hid e1
        have E2 := Lib.hid e2
        have DE := Lib.hid de
        have HN := Lib.hid hN
        have hm2 : cut % ((N : Int) + 1) = (m : Int) := hm
        have hN3 : ¬ (N : Int) < 3 := by omega
        obtain ⟨hc0, hc1⟩ := hc
        clear h lg cf hlen hq hn e1 e2 de hv hd hfr hN hm hX l0
        go_enter Try.func4, Try.ntmps4
        go_wp2_with fail
        refine (awake_calls _).mono ?_
        rintro e w1 ⟨rfl, b1⟩
        have I1 := Lib.hid (H.out.below b1)
        have B1 := Lib.hid b1
        clear b1
        go_wp2_with fail
        refine (LG.out _ I1.out).mono ?_
        rintro e w2 ⟨rfl, b2⟩
        have I2 := Lib.hid (I1.out.below b2)
        have B2 := Lib.hid (below_then B1.out b2 B1.out.size)
        clear b2
        go_wp2_with fail
        refine (CF.out _ I2.out).mono ?_
        rintro e w3 ⟨rfl, b3⟩
        have I3 := Lib.hid (I2.out.below b3)
        have B3 := Lib.hid (below_then B2.out b3 B2.out.size)
        clear b3
        go_wp2_with fail
        refine (E1.out _ I3.out).mono ?_
        rintro e w4 ⟨v4, rfl, o4, b4⟩
        obtain ⟨A4, n4, c4, rfl, y4, -⟩ := o4.ints
        have hn4 := y4.len
        rw [HN.out] at hn4
        subst hn4
        have hc4 := y4.cap
        have hx4 := y4.max
        have I4 := Lib.hid (I3.out.below b4)
        have B4 := Lib.hid (below_then B3.out b4 B3.out.size)
        have dd := DE.out w4 A4 m c4 (y4.take hmN) (fun ad e => by
          obtain ⟨ad', e', hl, -⟩ := y4.at_ (show 0 < N by omega)
          rw [e] at e'
          injection e' with e'
          rw [e']; exact hl)
        have DD := Lib.hid dd
        clear b4 o4 y4 dd
        go_wp2_with fail
        refine (DD.out).mono ?_
        rintro e w5 ⟨A8, n8, c8, rfl, s5, b5⟩
        have S5 := Lib.hid s5
        have I5 := Lib.hid (I4.out.below b5)
        have B5 := Lib.hid (below_then B4.out b5 B4.out.size)
        clear b5 s5
        go_wp2
        go_loopw [54] (fun i wr => ∃ k : Nat, k ≤ n + 1 ∧ i = .int .i64 k ∧ Hid (∀ j, j < k → ¬ (encL (ss.take j)).length = m) ∧ Below w5.heap.size w5 wr) (fun i _ => n + 1 - (intOf i).toNat)
        case atStart => exact ⟨0, Nat.zero_le _, rfl, Lib.hid fun j hj => absurd hj (by omega), Below.refl _ _⟩
        case round =>
          obtain ⟨k, hk, rfl, HNO, hbe⟩ := hrel
          generalize wr = wo at *
          have INW := Lib.hid (I5.out.below hbe)
          have SO := Lib.hid (S5.out.below hbe)
          have BO := Lib.hid hbe
          have BW := Lib.hid (below_then B5.out hbe B5.out.size)
          clear hbe
          by_cases hlt : k < n + 1
          · have ek := E2.out k (by omega) wo INW.out
            obtain ⟨M, hM⟩ : ∃ M, (encL (ss.take k)).length = M := ⟨_, rfl⟩
            have hM5 : (M : Int) ≤ 40000 := by have := enc_mono ss k; omega
            have HM := Lib.hid hM
            have EK := Lib.hid ek
            have hkc : k ≤ c := by omega
            clear ek hM
            go_wp2_with fail
            refine (EK.out).mono ?_
            rintro e w6 ⟨v6, rfl, o6, b6⟩
            obtain ⟨A6, n6, c6, rfl, y6, -⟩ := o6.ints
            have hn6 := y6.len
            rw [HM.out] at hn6
            subst hn6
            have hc6 := y6.cap
            have hx6 := y6.max
            have BO6 := Lib.hid (below_then BO.out b6 BO.out.size)
            have BW6 := Lib.hid (below_then BW.out b6 BW.out.size)
            have IT6 := Lib.hid ((INW.out.below b6).take (show k ≤ n by omega))
            have SO6 := Lib.hid (SO.out.below b6)
            clear b6 o6 y6
            by_cases hkm : M = m
            · have hh := HIT.out k (by omega) (by rw [HM.out]; exact hkm)
              injection hh with hh1 hh2
              subst hh1 hh2
              have sa := SameAll_ref w6 SO6.out IT6.out
              have SA := Lib.hid sa
              have hkm2 : ((M : Int) == (m : Int)) = true := by simp [hkm]
              clear sa hkm
              go_wp2_with fail
              refine (SA.out).mono ?_
              rintro e w7 ⟨rfl, b7⟩
              have B7 := Lib.hid (below_then BW6.out b7 BW6.out.size)
              clear b7
              go_wp2
              go_ret
              exact ⟨rfl, B7.out⟩
            · have hkm2 : ((M : Int) == (m : Int)) = false := by simp; omega
              have HN2 : Hid (∀ j, j < k + 1 → ¬ (encL (ss.take j)).length = m) := Lib.hid fun j hj e => by
                by_cases hjk : j = k
                · rw [hjk, HM.out] at e; exact hkm e
                · exact HNO.out j (by omega) e
              clear hkm
              go_wp2
              go_roundw
              case rel => exact ⟨k + 1, by omega, by go_num, HN2, BO6.out⟩
              case measure => simp [intOf]; try omega
          · obtain rfl : k = n + 1 := by omega
            have hms := MISS.out (fun k hk => HNO.out k (by omega))
            have hsl := S5.out.len
            clear hk hlt
            rcases hms with hms | ⟨hm3, hms⟩
            · injection hms with hh1 hh2
              subst hh1 hh2
              obtain rfl : n8 = 0 := by rw [← hsl]; rfl
              clear hsl
              go_wp2
              go_ret
              exact ⟨rfl, BW.out⟩
            · injection hms with hh1 hh2
              subst hh1 hh2
              obtain rfl : n8 = 0 := by rw [← hsl]; rfl
              have hm4 : (m : Int) < 3 := by omega
              clear hsl hm3
              go_wp2
              go_ret
              exact ⟨rfl, BW.out⟩
      · rw [hn] at cf
        rw [hq] at lg
        have LG := Lib.hid lg
        have CF := Lib.hid cf
        clear h lg cf hlen hq hn
        go_enter Try.func4, Try.ntmps4
        go_wp2_with fail
        refine (awake_calls _).mono ?_
        rintro e w1 ⟨rfl, b1⟩
        have I1 := Lib.hid (H.out.below b1)
        have B1 := Lib.hid b1
        clear b1
        go_wp2_with fail
        refine (LG.out _ I1.out).mono ?_
        rintro e w2 ⟨rfl, b2⟩
        have I2 := Lib.hid (I1.out.below b2)
        have B2 := Lib.hid (below_then B1.out b2 B1.out.size)
        clear b2
        go_wp2_with fail
        refine (CF.out _ I2.out).mono ?_
        rintro e w3 ⟨rfl, b3⟩
        have B3 := Lib.hid (below_then B2.out b3 B2.out.size)
        clear b3
        go_wp2
        go_ret
        exact ⟨rfl, B3.out⟩
    · rw [hq] at lg
      have LG := Lib.hid lg
      clear h lg cf hlen hq
      go_enter Try.func4, Try.ntmps4
      go_wp2_with fail
      refine (awake_calls _).mono ?_
      rintro e w1 ⟨rfl, b1⟩
      have I1 := Lib.hid (H.out.below b1)
      have B1 := Lib.hid b1
      clear b1
      go_wp2_with fail
      refine (LG.out _ I1.out).mono ?_
      rintro e w2 ⟨rfl, b2⟩
      have B2 := Lib.hid (below_then B1.out b2 B1.out.size)
      clear b2
      go_wp2
      go_ret
      exact ⟨rfl, B2.out⟩
end Go.Proofs.Ytchnfahgmceohaa
