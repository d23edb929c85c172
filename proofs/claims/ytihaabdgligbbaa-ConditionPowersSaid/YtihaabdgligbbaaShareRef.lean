/- Share of the reference. -/
import Derived.Test.YtihaabdgligbbaaPart
import Derived.Test.YtihaabdgligbbaaShare
namespace Go.Proofs.Ytihaabdgligbbaa
open Go.RowKit
set_option linter.unusedVariables false

set_option maxHeartbeats 4000000 in
set_option maxRecDepth 100000 in
theorem Given_ref {A : Option Addr} {n c : Nat} {ws : List Int} (t : Int) (w : World) (h : Ints w A n c ws) :
    Calls Try.prog 69 #[.int .i64 t, .slice A n c] w fun e w' => e = .returned (.int .i64 (ShareE t ws)) ∧ w = w' := by
  have HL := Lib.hid h.len
  have hcap := h.cap
  have hmax := h.max
  have H := Lib.hid h
  obtain ⟨x, hx⟩ : ∃ x, ShareE t ws = x := ⟨_, rfl⟩
  rw [hx]
  unfold ShareE at hx
  rw [HL.out] at hx
  have HX := Lib.hid hx
  clear hx h
  by_cases c1 : 10000 < (n : Int)
  · go_enter Try.func69, Try.ntmps69
    go_wp2
    go_ret
    exact ⟨ret_i (by rw [← HX.out, if_pos (by omega)]), rfl⟩
  by_cases c2 : t < 0
  · go_enter Try.func69, Try.ntmps69
    go_wp2
    go_ret
    exact ⟨ret_i (by rw [← HX.out, if_neg (by omega), if_pos (by omega)]), rfl⟩
  by_cases c3 : 1125899906842624 < t
  · go_enter Try.func69, Try.ntmps69
    go_wp2
    go_ret
    exact ⟨ret_i (by rw [← HX.out, if_neg (by omega), if_pos (by omega)]), rfl⟩
  replace HX : Hid ((if inB 1125899906842624 ws = false then 2 else if 1152921504606846976 < sumL ws then 5 else if sumL ws = 0 then 16 else 0) = x) := by
    have := HX.out
    rw [if_neg (by omega), if_neg (by omega)] at this
    exact this
  go_enter Try.func69, Try.ntmps69
  go_wp2
  go_loop [5] (fun i => ∃ k : Nat, k ≤ n ∧ i = .int .i64 k ∧ ∀ j, j < k → badB 1125899906842624 (el ws j) = false) (fun i => n - (intOf i).toNat)
  case atStart => exact ⟨0, Nat.zero_le _, rfl, fun j hj => absurd hj (by omega)⟩
  case round =>
    obtain ⟨k, hk, rfl, hno⟩ := hrel
    have HN := Lib.hid hno
    clear hno
    by_cases hlt : k < n
    · obtain ⟨ad, rfl, hl, hc⟩ := H.out.at_ hlt
      have S1 := @in_step 1125899906842624 ws k HN.out
      have S2 := @in_low 1125899906842624 ws k (by rw [HL.out]; exact hlt)
      have S3 := @in_high 1125899906842624 ws k (by rw [HL.out]; exact hlt)
      have HS1 := Lib.hid S1
      have HS2 := Lib.hid S2
      have HS3 := Lib.hid S3
      clear S1 S2 S3
      generalize el ws k = y at *
      by_cases b0 : y < 0
      · go_wp2
        go_ret
        exact ⟨ret_i (by rw [← HX.out, if_pos (HS2.out b0)]), rfl⟩
      · by_cases b1 : 1125899906842624 < y
        · go_wp2
          go_ret
          exact ⟨ret_i (by rw [← HX.out, if_pos (HS3.out b1)]), rfl⟩
        · go_wp2
          go_round
          case rel => exact ⟨k + 1, by omega, by go_num, HS1.out (by omega) (by omega)⟩
          case measure => simp [intOf]; try omega
    · obtain rfl : k = n := by omega
      have hin := in_all (fun j hj => HN.out j (by rw [HL.out] at hj; omega))
      have HX2 : Hid ((if 1152921504606846976 < sumL ws then 5 else if sumL ws = 0 then 16 else 0) = x) := by
        have := HX.out
        rw [hin, if_neg (by decide)] at this
        exact this
      have HIN := Lib.hid hin
      clear hin
      go_wp2
      go_loop [6, 7] (fun u i => ∃ (j : Nat) (s : Int), j ≤ k ∧ i = .int .i64 j ∧ u = .int .i64 s ∧ Hid (s = sumF (el ws) j) ∧ 0 ≤ s ∧ s ≤ 1152921504606846976) (fun _ i => k - (intOf i).toNat)
      case atStart => exact ⟨0, 0, Nat.zero_le _, rfl, rfl, by rfl, by omega, by omega⟩
      case round =>
        obtain ⟨j, s, hj, rfl, rfl, hs, hs0, hs1⟩ := hrel
        by_cases hlt2 : j < k
        · obtain ⟨ad, rfl, hl, hc⟩ := H.out.at_ hlt2
          obtain ⟨y0, y1⟩ := inB_el HIN.out (show j < ws.length by rw [HL.out]; exact hlt2)
          have hp := (part_bd HIN.out (show j + 1 ≤ ws.length by rw [HL.out]; omega)).2
          rw [sumF, ← hs.out] at hp
          have HP := Lib.hid hp
          have HS : Hid (s + el ws j = sumF (el ws) (j + 1)) := Lib.hid (by rw [sumF, hs.out])
          clear hp
          generalize el ws j = y at *
          by_cases hbig : 1152921504606846976 < s + y
          · go_wp2
            go_ret
            exact ⟨ret_i (by rw [← HX2.out, if_pos (by have := HP.out; omega)]), rfl⟩
          · go_wp2
            go_round
            case rel => exact ⟨j + 1, s + y, by omega, by go_num, rfl, HS, by omega, by omega⟩
            case measure => simp [intOf]; try omega
        · obtain rfl : j = k := by omega
          have HE : Hid (s = sumL ws) := Lib.hid (by rw [hs.out]; unfold sumL; rw [HL.out])
          by_cases hz : s = 0
          · have hz' : ((s : Int) == 0) = true := by rw [beq_iff_eq]; exact hz
            have HZ := Lib.hid hz
            clear hz
            go_wp2
            go_ret
            exact ⟨ret_i (by rw [← HX2.out, ← HE.out, if_neg (by omega), if_pos HZ.out]), rfl⟩
          · have hz' : ((s : Int) == 0) = false := by rw [beq_eq_false_iff_ne]; exact hz
            have HZ := Lib.hid hz
            clear hz
            go_wp2
            go_ret
            exact ⟨ret_i (by rw [← HX2.out, ← HE.out, if_neg (by omega), if_neg HZ.out]), rfl⟩

set_option maxHeartbeats 4000000 in
set_option maxRecDepth 100000 in
theorem Share_inR {A : Option Addr} {n c : Nat} {ws : List Int} (t : Int) (w : World) (h : Ints w A n c ws) (hok : ShareOk t ws) :
    Calls Try.prog 64 #[.int .i64 t, .slice A n c] w (RetL (shL t ws) 0 w) := by
  have hlen := h.len
  have HL := Lib.hid hlen
  have hcap := h.cap
  have hmax := h.max
  have H := Lib.hid h
  have HOK := Lib.hid hok
  have d2 := hok.t0
  have d3 := hok.t1
  have hg := Given_ref t w h
  rw [shareE_ok.2 hok] at hg
  obtain ⟨T, rfl⟩ : ∃ T : Nat, t = T := ⟨t.toNat, by omega⟩
  have hn : n ≤ 10000 := by have := hok.len; omega
  have HG := Lib.hid hg
  clear hlen hok h hg
  go_enter Try.func64, Try.ntmps64
  go_wp2_with fail
  refine HG.out.mono ?_
  rintro e w' ⟨rfl, rfl⟩
  go_wp2
  go_loop [7, 8] (fun u i => ∃ k : Nat, k ≤ n ∧ i = .int .i64 k ∧ u = .int .i64 (sumF (el ws) k)) (fun _ i => n - (intOf i).toNat)
  case atStart => exact ⟨0, Nat.zero_le _, rfl, rfl⟩
  case round =>
    obtain ⟨k, hk, rfl, rfl⟩ := hrel
    by_cases hlt : k < n
    · obtain ⟨ad, rfl, hl, hc⟩ := H.out.at_ hlt
      have hy := inB_el HOK.out.ok (show k < ws.length by rw [HL.out]; exact hlt)
      have hp0 := part_bd HOK.out.ok (show k ≤ ws.length by rw [HL.out]; omega)
      have hp1 := part_bd HOK.out.ok (show k + 1 ≤ ws.length by rw [HL.out]; omega)
      have hs1 := HOK.out.s1
      have HS : Hid (sumF (el ws) (k + 1) = sumF (el ws) k + el ws k) := Lib.hid rfl
      rw [show sumF (el ws) (k + 1) = sumF (el ws) k + el ws k from rfl] at hp1
      obtain ⟨y0, y1⟩ := hy
      obtain ⟨p0, p1⟩ := hp0
      obtain ⟨p2, p3⟩ := hp1
      go_wp2
      go_round
      case rel => exact ⟨k + 1, by omega, by go_num, ret_v HS.out.symm⟩
      case measure => simp [intOf]; try omega
    · obtain rfl : k = n := by omega
      have hs0 := HOK.out.s0
      have hs1 := HOK.out.s1
      have hS : sumF (el ws) k = sumL ws := by unfold sumL; rw [HL.out]
      rw [hS]
      clear hS
      obtain ⟨S, hSS⟩ : ∃ S : Nat, sumL ws = S := ⟨(sumL ws).toNat, by omega⟩
      rw [hSS] at hs0 hs1 ⊢
      have HSS := Lib.hid hSS
      clear hSS
      go_wp2
      go_loopw [9, 10, 11, 12] (fun v f b i wr => ∃ (k' F q : Nat), k' ≤ k ∧ i = .int .i64 k' ∧ f = .int .i64 F ∧ b = .int .i64 q ∧ Hid ((F : Int) = sumF (el ws) k') ∧ Hid ((q : Int) = T * sumF (el ws) k' / sumL ws) ∧ F ≤ S ∧ q ≤ T ∧ Own wr w.heap.size v (fl k' (shF T ws)) ∧ Below w.heap.size w wr) (fun _ _ _ i _ => k - (intOf i).toNat)
      case atStart => exact ⟨0, 0, 0, Nat.zero_le _, rfl, rfl, rfl, by unfold Hid; simp [sumF], by unfold Hid; simp [sumF], by omega, by omega, Own.nil _ _, Below.refl _ _⟩
      case round =>
        obtain ⟨j, F, q, hj, rfl, rfl, rfl, hF, hq, hFS, hqT, hown, hbe⟩ := hrel
        have HO := Lib.hid hown
        have HB := Lib.hid hbe
        by_cases hlt2 : j < k
        · obtain ⟨ad, rfl, hl, hc⟩ := (H.out.below hbe).at_ hlt2
          have hy := inB_el HOK.out.ok (show j < ws.length by rw [HL.out]; exact hlt2)
          have hp1 := part_bd HOK.out.ok (show j + 1 ≤ ws.length by rw [HL.out]; omega)
          have hqb := qk_bd HOK.out (show j + 1 ≤ ws.length by rw [HL.out]; omega)
          have hqm := qk_mono HOK.out (show j < ws.length by rw [HL.out]; exact hlt2)
          rw [← hq.out] at hqm
          have hf1 : (F : Int) + el ws j = sumF (el ws) (j + 1) := by rw [hF.out]; rfl
          obtain ⟨F1, hF1⟩ : ∃ F1 : Nat, sumF (el ws) (j + 1) = F1 := ⟨(sumF (el ws) (j + 1)).toNat, by omega⟩
          have hFS1 : F1 ≤ S := by have := hp1.2; rw [HSS.out, hF1] at this; omega
          have hq1 : ((T : Int) * sumF (el ws) (j + 1) / sumL ws) = ((T * F1 / S : Nat) : Int) := by rw [hF1, HSS.out]; norm_cast
          rw [hF1] at hf1
          rw [hq1] at hqb hqm
          have HF1 := Lib.hid hF1
          have HQ1 := Lib.hid hq1
          have c1 := fun W => Part_ref T F1 S (by omega) hFS1 (by omega) (by omega) W
          generalize T * F1 / S = q1 at *
          have C1 := Lib.hid c1
          obtain ⟨y0, y1⟩ := hy
          obtain ⟨qb0, qb1⟩ := hqb
          clear c1 hF1 hq1 hp1 hown hbe
          generalize el ws j = y at *
          go_wp2_with fail
          refine (C1.out _).mono ?_
          rintro e w1 ⟨rfl, rfl⟩
          go_wp2_with (at_builtin; refine wpList_append_int _ w.heap.size _ (fl j (shF T ws)) ((q1 : Int) - q) rfl _ _ rfl rfl rfl HO.out HB.out.size (by rw [fl_length]; omega) (by omega) ?_)
          intro v' w2 ho hb
          have R1 := Lib.hid (sh_step ho hq.out HQ1.out.symm)
          have R2 := Lib.hid (HB.out.trans hb)
          have R3 : Hid ((F1 : Int) = sumF (el ws) (j + 1)) := Lib.hid HF1.out.symm
          have R4 : Hid ((q1 : Int) = T * sumF (el ws) (j + 1) / sumL ws) := Lib.hid HQ1.out.symm
          clear ho hb
          go_wp2
          go_roundw
          case rel => exact ⟨j + 1, F1, q1, by omega, by go_num, rfl, rfl, R3, R4, hFS1, by omega, R1.out, R2.out⟩
          case measure => simp [intOf]; try omega
        · obtain rfl : j = k := by omega
          clear hown hbe
          go_wp2
          go_returns
          have := RetL.own (x := 0) HO.out HB.out
          unfold shL
          rw [HL.out]
          exact this

theorem Share_ref {A : Option Addr} {n c : Nat} {ws : List Int} (t : Int) (w : World) (h : Ints w A n c ws) :
    Calls Try.prog 64 #[.int .i64 t, .slice A n c] w (RetL (ShareV t ws).1 (ShareV t ws).2 w) := by
  by_cases hok : ShareOk t ws
  · rw [shareV_ok hok]; exact Share_inR t w h hok
  · rw [shareV_no hok]
    have hg := Given_ref t w h
    have hne : ¬ ShareE t ws = 0 := fun e => hok (shareE_ok.1 e)
    generalize ShareE t ws = x at *
    have hx : ((x : Int) != 0) = true := by rw [bne_iff_ne]; exact hne
    have HG := Lib.hid hg
    clear hg hne h
    go_enter Try.func64, Try.ntmps64
    go_wp2_with fail
    refine HG.out.mono ?_
    rintro e w' ⟨rfl, rfl⟩
    go_wp2
    go_returns
    exact RetL.none_ (Below.refl _ _)
end Go.Proofs.Ytihaabdgligbbaa
