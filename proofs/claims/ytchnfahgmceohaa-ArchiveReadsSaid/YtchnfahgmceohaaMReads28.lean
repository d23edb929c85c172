/- Append of the reference. -/
import Derived.Test.YtchnfahgmceohaaMReads23
import Derived.Test.YtchnfahgmceohaaMReads26
import Derived.Test.YtchnfahgmceohaaMReads11
import Derived.Test.YtchnfahgmceohaaMReads13
import Derived.Test.YtchnfahgmceohaaMReads14
import Derived.Test.YtchnfahgmceohaaMReads27

namespace Go.Proofs.Ytchnfahgmceohaa
open Go.RowKit
set_option linter.unusedVariables false

set_option maxRecDepth 100000 in
set_option maxHeartbeats 4000000 in
theorem Append_ref {A A1 : Option Addr} {n c n1 c1 : Nat} {bs : List Int} (s : SerD) (w : World) (h : Byts w A n c bs) (h1 : Ints w A1 n1 c1 s.ds) :
    Calls Try.prog 30 #[.slice A n c, serA s.f s.st A1 n1 c1] w (RetZ (appV bs s).1 (appV bs s).2 w) := by
  have hb0 : Below w.heap.size w (w.alloc (serO s.f s.st A1 n1 c1)) := (Below.refl _ _).alloc (Nat.le_refl _) _
  have dc := DecodeR_any _ (h.below hb0)
  have hlen := h.len
  have Y0 := Lib.hid (h.below hb0)
  have I0 := Lib.hid (h1.below hb0)
  have X0 := Lib.hid (SBox.made w s.f s.st A1 n1 c1)
  have B0 := Lib.hid hb0
  have hbig : 1048576 < bs.length → decL bs = ([], 4) := fun hh => by unfold decL; rw [if_pos hh]
  have hfew := decL_few bs
  have hshort : (decL bs).2 = 0 → 3 ≤ bs.length := fun h0 => by
    by_cases h3 : 3 ≤ bs.length
    · exact h3
    · exfalso
      unfold decL at h0
      rw [if_neg (by omega), if_pos (fun h => h3 (take3_iff.1 h).1)] at h0
      simp at h0
  obtain ⟨V, hV⟩ : ∃ V, appV bs s = V := ⟨_, rfl⟩
  rw [hV]
  unfold appV at hV
  generalize decL bs = D at *
  obtain ⟨xs, er⟩ := D
  dsimp only at hV hfew hshort
  have DC := Lib.hid dc
  clear dc h h1 hb0
  by_cases her : er = 0
  · subst her
    rw [if_neg (by simp)] at hV
    have hbl : bs.length ≤ 1048576 := by
      by_cases hh : 1048576 < bs.length
      · have := hbig hh
        injection this with _ h2
        cases h2
      · omega
    have hn3 := hshort rfl
    clear hbig hshort
    cases hv : validS s.f s.st s.ds
    · rw [if_pos hv] at hV
      subst hV
      clear hlen hfew
      have gv := fun W (I : Ints W A1 n1 c1 s.ds) => rValid_calls s.f s.st W I
      rw [hv] at gv
      have GV := Lib.hid gv
      clear gv hv
      go_enter Try.func30, Try.ntmps30
      go_wp2_with fail
      refine (DC.out).mono ?_
      rintro e w1 ⟨A2, n2, c2, rfl, s2, b1⟩
      have I1 := Lib.hid (I0.out.below b1)
      obtain ⟨x0, x1, x2, xl⟩ : SBox w1 w.heap.size s.f s.st A1 n1 c1 := X0.out.below b1 X0.out.lt
      have B1 := Lib.hid (below_then B0.out b1 B0.out.size)
      clear b1 s2
      go_wp2_with fail
      refine (GV.out _ I1.out).mono ?_
      rintro e w2 ⟨rfl, b2⟩
      have B2 := Lib.hid (below_then B1.out b2 B1.out.size)
      clear b2
      go_wp2
      go_returns
      exact RetZ.none_ B2.out
    · rw [if_neg (by rw [hv]; simp)] at hV
      have gv := fun W (I : Ints W A1 n1 c1 s.ds) => rValid_calls s.f s.st W I
      rw [hv] at gv
      have hrl := (recL_len s.f s.st s.ds).2
      have hrl8 := (recL_len s.f s.st s.ds).1
      have hn1 := (validS_parts hv).1.n1
      have rc := fun B v W (O : OwnB W B v bs) (hB : B ≤ W.heap.size) (I : Ints W A1 n1 c1 s.ds) (hbl2 : bs.length ≤ 100000000000) => add_ref s.f s.st B v bs W O hB hbl2 I hv
      have er : recD s = recL s.f s.st s.ds := rfl
      rw [← er] at hrl hrl8 rc
      generalize recD s = R at *
      have hRl : R.length ≤ 300000 := by omega
      have hnn : n ≤ 1048576 := by omega
      have hxs : xs.length ≤ 1000 := hfew
      have HV := Lib.hid hV
      have GV := Lib.hid gv
      have RC := Lib.hid rc
      clear gv rc hv hrl hn1 hfew er hV
      go_enter Try.func30, Try.ntmps30
      go_wp2_with fail
      refine (DC.out).mono ?_
      rintro e w1 ⟨A2, n2, c2, rfl, s2, b1⟩
      obtain rfl : n2 = xs.length := s2.len.symm
      have I1 := Lib.hid (I0.out.below b1)
      have Y1 := Lib.hid (Y0.out.below b1)
      have X1 : Hid (SBox w1 w.heap.size s.f s.st A1 n1 c1) := Lib.hid (X0.out.below b1 X0.out.lt)
      obtain ⟨x0, x1, x2, xl⟩ := X1.out
      have B1 := Lib.hid (below_then B0.out b1 B0.out.size)
      clear b1 s2
      go_wp2_with fail
      refine (GV.out _ I1.out).mono ?_
      rintro e w2 ⟨rfl, b2⟩
      have I2 := Lib.hid (I1.out.below b2)
      have Y2 := Lib.hid (Y1.out.below b2)
      have X2 : Hid (SBox w2 w.heap.size s.f s.st A1 n1 c1) := Lib.hid (X1.out.below b2 X1.out.lt)
      clear x0 x1 x2 xl
      obtain ⟨x0, x1, x2, xl⟩ := X2.out
      have B2 := Lib.hid (below_then B1.out b2 B1.out.size)
      clear b2
      go_wp2
      go_upto_region 6 with fail
      go_cut [8] (fun t wx => OwnB wx w2.heap.size t (bs ++ R) ∧ Below w2.heap.size w2 wx)
      case first =>
        as_aux_lemma =>
        clear HV DC GV B0 B1 X0 X1 Y0 Y1 I0 I1
        have hb3 : Below w2.heap.size w2 (w2.drew.alloc (.cells #[] 5)) := (below_drewN (Below.refl _ _) 1).alloc (Nat.le_refl _) _
        have Y3 := Lib.hid (Y2.out.below hb3)
        have OE := Lib.hid (OwnB.empty w2.drew w2.heap.size (Nat.le_refl _))
        have HB3 := Lib.hid hb3
        have hnz : 0 < n := by omega
        clear hb3
        go_region_law (first
          | (refine step_append_bytes (w2.drew.alloc (.cells #[] 5)) w2.heap.size _ [] A n c bs rfl _ _ rfl rfl rfl OE.out (by simp) Y3.out hnz (by simp; omega) ?_; intro v4 w4 o4 b4; have B4 := Lib.hid (HB3.out.trans b4); have O4 := Lib.hid o4; have I4 := Lib.hid (I2.out.below B4.out); have X4 := X2.out.below B4.out X2.out.lt; obtain ⟨q0, q1, q2, ql⟩ := X4; clear o4 b4)
          | (go_simp; go_at_call 40; (with_reducible refine (RC.out w2.heap.size _ _ O4.out B4.out.size I4.out (by omega)).mono ?_); rintro e w6 ⟨v6, rfl, o6, b6⟩))
        all_goals (go_wp2_with fail; go_meet)
        all_goals exact ⟨o6, B4.out.trans (b6.below O4.out B4.out.size)⟩
      case rest =>
        obtain ⟨o8, b8⟩ := hcut
        obtain ⟨A8, n8, c8, rfl, y8, -⟩ := o8.ints
        obtain rfl : n8 = (bs ++ R).length := y8.len.symm
        have O8 := Lib.hid (o8.mono (show w.heap.size ≤ w2.heap.size from B2.out.size))
        have B8 := Lib.hid (below_then B2.out b8 B2.out.size)
        have hl8 : (bs ++ R).length = bs.length + R.length := List.length_append
        obtain ⟨L, hL⟩ : ∃ L, (bs ++ R).length = L := ⟨_, rfl⟩
        rw [hL] at hl8 O8
        have hv := HV.out
        have hLb : (L : Int) ≤ 2000000 := by omega
        rw [← hl8] at hv
        clear o8 b8 y8 HV X0 X1 X2 x0 x1 x2 xl
        by_cases h1 : xs.length = 1000
        · rw [if_pos (.inl h1)] at hv
          subst hv
          have h2 : ¬ (xs.length : Int) < 1000 := by omega
          clear h1
          rw [hL]
          clear hL hl8
          go_wp2
          go_returns
          exact RetZ.none_ B8.out
        · have h2 : (xs.length : Int) < 1000 := by omega
          by_cases h3 : 1048576 < L
          · rw [if_pos (.inr h3)] at hv
            subst hv
            have h4 : (1048576 : Int) < (L : Int) := by omega
            rw [hL]
            clear hL hl8 h1
            go_wp2
            go_returns
            exact RetZ.none_ B8.out
          · rw [if_neg (by omega)] at hv
            subst hv
            have h4 : (L : Int) ≤ 1048576 := by omega
            rw [hL]
            clear hL hl8 h1
            go_wp2
            go_returns
            exact ⟨_, rfl, O8.out, B8.out⟩
  · rw [if_pos her] at hV
    subst hV
    have heq : (er == 0) = false := by simp [her]
    clear hlen hfew hbig her hshort
    go_enter Try.func30, Try.ntmps30
    go_wp2_with fail
    refine (DC.out).mono ?_
    rintro e w1 ⟨A2, n2, c2, rfl, s2, b1⟩
    have B1 := Lib.hid (below_then B0.out b1 B0.out.size)
    clear b1 s2
    go_wp2
    go_returns
    exact RetZ.none_ B1.out
end Go.Proofs.Ytchnfahgmceohaa

/- The law ArchiveReads returns true. -/
namespace Go.Proofs.Ytchnfahgmceohaa
open Go.RowKit
set_option linter.unusedVariables false

def longB (n : Nat) : Bool := decide (3000 < n) && decide (n ≤ 1048576) || decide (1048586 < n)
set_option maxHeartbeats 1000000 in
theorem long_calls {A : Option Addr} {n c : Nat} (w : World) (hc : n ≤ c) (hm : c ≤ 9223372036854775807) :
    Calls Try.prog 26 #[.slice A n c] w fun e w' => e = .returned (.bool (longB n)) ∧ w = w' := by
  unfold longB
  by_cases h1 : 3000 < (n : Int)
  · rw [decide_eq_true (show 3000 < n by omega), Bool.true_and]
    by_cases h2 : (n : Int) ≤ 1048576
    · rw [decide_eq_true (show n ≤ 1048576 by omega), Bool.true_or]
      go_enter Try.func26, Try.ntmps26
      go_wp2
      go_ret
      exact ⟨rfl, rfl⟩
    · rw [decide_eq_false (show ¬ n ≤ 1048576 by omega), Bool.false_or]
      by_cases h3 : 1048586 < (n : Int)
      · rw [decide_eq_true (show 1048586 < n by omega)]
        go_enter Try.func26, Try.ntmps26
        go_wp2
        go_ret
        exact ⟨ret_b (by first | rfl | (rw [Bool.eq_iff_iff]; done) | (rw [Bool.eq_iff_iff]; simp; done) | (rw [Bool.eq_iff_iff]; simp; omega)), rfl⟩
      · rw [decide_eq_false (show ¬ 1048586 < n by omega)]
        go_enter Try.func26, Try.ntmps26
        go_wp2
        go_ret
        exact ⟨ret_b (by first | rfl | (rw [Bool.eq_iff_iff]; done) | (rw [Bool.eq_iff_iff]; simp; done) | (rw [Bool.eq_iff_iff]; simp; omega)), rfl⟩
  · rw [decide_eq_false (show ¬ 3000 < n by omega), Bool.false_and, Bool.false_or, decide_eq_false (show ¬ 1048586 < n by omega)]
    have h3 : ¬ 1048586 < (n : Int) := by omega
    go_enter Try.func26, Try.ntmps26
    go_wp2
    go_ret
    exact ⟨ret_b (by first | rfl | (rw [Bool.eq_iff_iff]; done) | (rw [Bool.eq_iff_iff]; simp; done) | (rw [Bool.eq_iff_iff]; simp; omega)), rfl⟩
theorem SBox.cells4 {w : World} {p : Nat} {f st : Int} {A : Option Addr} {n c : Nat} (h : SBox w p f st A n c) : w.cell? ⟨p, 0, none⟩ = some (.int .i64 f) ∧ w.cell? ⟨p, 1, none⟩ = some (.int .i64 st) ∧ w.cell? ⟨p, 2, none⟩ = some (.slice A n c) ∧ p < w.heap.size := ⟨h.c0, h.c1, h.c2, h.lt⟩

set_option maxRecDepth 100000 in
set_option maxHeartbeats 4000000 in
theorem Reads_calls {A A1 : Option Addr} {n c n1 c1 : Nat} {bs ds : List Int} {f st : Int} (k a b : Int) (w : World) (h : Byts w A n c bs) (h1 : Ints w A1 n1 c1 ds) (bf : -9223372036854775808 ≤ f ∧ f ≤ 9223372036854775807) (bst : -9223372036854775808 ≤ st ∧ st ≤ 9223372036854775807)
    (hk : -9223372036854775808 ≤ k ∧ k ≤ 9223372036854775807) (ha : -9223372036854775808 ≤ a ∧ a ≤ 9223372036854775807) (hb : -9223372036854775808 ≤ b ∧ b ≤ 9223372036854775807) :
    Calls Try.prog 7 #[.slice A n c, serA f st A1 n1 c1, .int .i64 k, .int .i64 a, .int .i64 b] w fun e w' => e = .returned (.bool true) ∧ Below w.heap.size w w' := by
  obtain ⟨s, hs⟩ : ∃ s : SerD, s = ⟨f, st, ds⟩ := ⟨_, rfl⟩
  obtain rfl : f = s.f := by rw [hs]
  obtain rfl : st = s.st := by rw [hs]
  obtain rfl : ds = s.ds := by rw [hs]
  have hb0 : Below w.heap.size w (w.alloc (serO s.f s.st A1 n1 c1)) := (Below.refl _ _).alloc (Nat.le_refl _) _
  have H0 := Lib.hid (h1.below hb0)
  have Y0 := Lib.hid (h.below hb0)
  have X0 := Lib.hid (SBox.made w s.f s.st A1 n1 c1)
  have B0 := Lib.hid hb0
  have lo := fun W => long_calls (A := A) W h.cap h.max
  have lg := fun W (I : Ints W A1 n1 c1 s.ds) => large_calls (W.alloc (serO s.f s.st A1 n1 c1)) (Sers.one I)
  have hcap := h.cap
  have hmax := h.max
  have cl := fun (hn : n ≤ 2000000) W (I : Byts W A n c bs) => clone_calls W I hn
  have r1 := fun W (I : Byts W A n c bs) => Read_any k a b W I hk ha hb
  have r2 := fun W (I : Byts W A n c bs) => Read_ref k a b W I hk ha hb
  have a1 := fun W (I : Byts W A n c bs) (J : Ints W A1 n1 c1 s.ds) => Append_any s W I J
  have a2 := fun W (I : Byts W A n c bs) (J : Ints W A1 n1 c1 s.ds) => Append_ref s W I J
  clear h h1 hb0 hs bf bst hk ha hb
  cases hlo : longB n
  · rw [hlo] at lo
    have hn2 : n ≤ 2000000 := by
      unfold longB at hlo
      simp at hlo
      omega
    have cl2 := cl hn2
    cases hq : largeB [s]
    · rw [hq] at lg
      generalize readV bs k a b = V at *
      generalize appV bs s = U at *
      obtain ⟨⟨vf, vs, vd⟩, ve⟩ := V
      obtain ⟨ub, ue⟩ := U
      have LO := Lib.hid lo
      have LG := Lib.hid lg
      have CL := Lib.hid cl2
      have R1 := Lib.hid r1
      have R2 := Lib.hid r2
      have A1' := Lib.hid a1
      have A2' := Lib.hid a2
      have hve : (ve == ve) = true := by simp
      have hue : (ue == ue) = true := by simp
      clear lo lg cl cl2 r1 r2 a1 a2 hlo hq
      go_enter Try.func7, Try.ntmps7
      go_wp2_with fail
      refine (awake_calls _).mono ?_
      rintro e w1 ⟨rfl, b1⟩
      have H1 := Lib.hid (H0.out.below b1)
      have Y1 := Lib.hid (Y0.out.below b1)
      have X1 : Hid (SBox w1 w.heap.size s.f s.st A1 n1 c1) := Lib.hid (X0.out.below b1 X0.out.lt)
      obtain ⟨x0, x1, x2, xl⟩ := X1.out.cells4
      have B1 := Lib.hid (below_then B0.out b1 B0.out.size)
      clear b1
      go_wp2_with fail
      refine (LO.out _).mono ?_
      rintro e w2' ⟨rfl, rfl⟩
      have lg1 := LG.out _ H1.out
      have LG1 := Lib.hid lg1
      clear lg1
      go_wp2_with fail
      refine (LG1.out).mono ?_
      rintro e w2 ⟨rfl, b2⟩
      have b2' := ((Below.refl w1.heap.size w1).alloc (Nat.le_refl _) (serO s.f s.st A1 n1 c1)).trans (b2.mono (by simp))
      have H2 := Lib.hid (H1.out.below b2')
      have Y2 := Lib.hid (Y1.out.below b2')
      have X2 : Hid (SBox w2 w.heap.size s.f s.st A1 n1 c1) := Lib.hid (X1.out.below b2' X1.out.lt)
      have B2 := Lib.hid (below_then B1.out b2' B1.out.size)
      clear b2 b2' x0 x1 x2 xl
      go_wp2_with fail
      refine (CL.out _ Y2.out).mono ?_
      rintro e w3 ⟨v3, rfl, o3, b3⟩
      obtain ⟨A3, n3, c3, rfl, y3, -⟩ := o3.ints
      have H3 := Lib.hid (H2.out.below b3)
      have Y3 := Lib.hid (Y2.out.below b3)
      have O3 := Lib.hid y3
      have X3 : Hid (SBox w3 w.heap.size s.f s.st A1 n1 c1) := Lib.hid (X2.out.below b3 X2.out.lt)
      have B3 := Lib.hid (below_then B2.out b3 B2.out.size)
      clear b3 o3 y3
      go_wp2_with fail
      refine (R1.out _ Y3.out).mono ?_
      rintro e w4 ⟨A4, n4, c4, rfl, i4, b4, -⟩
      have ba4 : Below w4.heap.size w4 (w4.alloc (serO vf vs A4 n4 c4)) := (Below.refl _ _).alloc (Nat.le_refl _) _
      have bb4 := below_then b4 ba4 b4.size
      have Z4 := Lib.hid (SBox.made w4 vf vs A4 n4 c4)
      have J4 := Lib.hid (i4.below ba4)
      have H4 := Lib.hid (H3.out.below bb4)
      have Y4 := Lib.hid (Y3.out.below bb4)
      have O4 := Lib.hid (O3.out.below bb4)
      have X4 : Hid (SBox (w4.alloc (serO vf vs A4 n4 c4)) w.heap.size s.f s.st A1 n1 c1) := Lib.hid (X3.out.below bb4 X3.out.lt)
      have B4 := Lib.hid (below_then B3.out bb4 B3.out.size)
      clear b4 ba4 bb4 i4
      go_wp2_with fail
      refine (R2.out _ Y4.out).mono ?_
      rintro e w5 ⟨A5, n5, c5, rfl, i5, b5, -⟩
      have ba5 : Below w5.heap.size w5 (w5.alloc (serO vf vs A5 n5 c5)) := (Below.refl _ _).alloc (Nat.le_refl _) _
      have bb5 := below_then b5 ba5 b5.size
      have T5 := Lib.hid (SBox.made w5 vf vs A5 n5 c5)
      have K5 := Lib.hid (i5.below ba5)
      have Z5 := Lib.hid (Z4.out.below bb5 Z4.out.lt)
      have J5 := Lib.hid (J4.out.below bb5)
      have H5 := Lib.hid (H4.out.below bb5)
      have Y5 := Lib.hid (Y4.out.below bb5)
      have O5 := Lib.hid (O4.out.below bb5)
      have X5 : Hid (SBox (w5.alloc (serO vf vs A5 n5 c5)) w.heap.size s.f s.st A1 n1 c1) := Lib.hid (X4.out.below bb5 X4.out.lt)
      have B5 := Lib.hid (below_then B4.out bb5 B4.out.size)
      obtain ⟨x0, x1, x2, xl⟩ := X5.out.cells4
      clear b5 ba5 bb5 i5
      go_wp2_with fail
      refine (A1'.out _ Y5.out H5.out).mono ?_
      rintro e w6 ⟨v6, rfl, o6, b6⟩
      obtain ⟨A6, n6, c6, rfl, y6, -⟩ := o6.ints
      have T6 := Lib.hid (T5.out.below b6 T5.out.lt)
      have K6 := Lib.hid (K5.out.below b6)
      have Z6 := Lib.hid (Z5.out.below b6 Z5.out.lt)
      have J6 := Lib.hid (J5.out.below b6)
      have H6 := Lib.hid (H5.out.below b6)
      have Y6 := Lib.hid (Y5.out.below b6)
      have O6 := Lib.hid (O5.out.below b6)
      have P6 := Lib.hid y6
      have X6 := Lib.hid (X5.out.below b6 X5.out.lt)
      have B6 := Lib.hid (below_then B5.out b6 B5.out.size)
      clear x0 x1 x2 xl b6 o6 y6
      obtain ⟨x0, x1, x2, xl⟩ := X6.out.cells4
      go_wp2_with fail
      refine (A2'.out _ Y6.out H6.out).mono ?_
      rintro e w7 ⟨v7, rfl, o7, b7⟩
      obtain ⟨A7, n7, c7, rfl, y7, -⟩ := o7.ints
      have T7 := Lib.hid (T6.out.below b7 T6.out.lt)
      have K7 := Lib.hid (K6.out.below b7)
      have Z7 := Lib.hid (Z6.out.below b7 Z6.out.lt)
      have J7 := Lib.hid (J6.out.below b7)
      have Y7 := Lib.hid (Y6.out.below b7)
      have O7 := Lib.hid (O6.out.below b7)
      have P7 := Lib.hid (P6.out.below b7)
      have Q7 := Lib.hid y7
      have B7 := Lib.hid (below_then B6.out b7 B6.out.size)
      clear x0 x1 x2 xl b7 o7 y7
      obtain ⟨z0, z1, z2, zl⟩ := Z7.out.cells4
      obtain ⟨t0, t1, t2, tl⟩ := T7.out.cells4
      have SM := Lib.hid (Same_ser vf vs w7 J7.out K7.out)
      go_wp2_with fail
      refine (SM.out).mono ?_
      rintro e w8 ⟨rfl, b8⟩
      have eq1 := equalB_calls w8 (P7.out.below b8) (Q7.out.below b8)
      have eq2 := equalB_calls w8 (Y7.out.below b8) (O7.out.below b8)
      rw [decide_eq_true rfl] at eq1 eq2
      have E1 := Lib.hid eq1
      have E2 := Lib.hid eq2
      have B8 := Lib.hid (below_then B7.out b8 B7.out.size)
      clear eq1 eq2 b8 z0 z1 z2 t0 t1 t2
      go_wp2_with fail
      refine (E1.out).mono ?_
      rintro e w9 ⟨rfl, rfl⟩
      go_wp2_with fail
      refine (E2.out).mono ?_
      rintro e w9 ⟨rfl, rfl⟩
      go_wp2
      go_ret
      exact ⟨rfl, B8.out⟩
    · rw [hq] at lg
      have LO := Lib.hid lo
      have LG := Lib.hid lg
      clear lo lg cl cl2 r1 r2 a1 a2 hlo hq
      go_enter Try.func7, Try.ntmps7
      go_wp2_with fail
      refine (awake_calls _).mono ?_
      rintro e w1 ⟨rfl, b1⟩
      have H1 := Lib.hid (H0.out.below b1)
      obtain ⟨x0, x1, x2, xl⟩ := (X0.out.below b1 X0.out.lt).cells4
      have B1 := Lib.hid (below_then B0.out b1 B0.out.size)
      clear b1
      go_wp2_with fail
      refine (LO.out _).mono ?_
      rintro e w2' ⟨rfl, rfl⟩
      have lg1 := LG.out _ H1.out
      have LG1 := Lib.hid lg1
      clear lg1
      go_wp2_with fail
      refine (LG1.out).mono ?_
      rintro e w2 ⟨rfl, b2⟩
      have b2' := ((Below.refl w1.heap.size w1).alloc (Nat.le_refl _) (serO s.f s.st A1 n1 c1)).trans (b2.mono (by simp))
      have B2 := Lib.hid (below_then B1.out b2' B1.out.size)
      clear b2 b2'
      go_wp2
      go_ret
      exact ⟨rfl, B2.out⟩
  · rw [hlo] at lo
    have LO := Lib.hid lo
    clear lo lg cl r1 r2 a1 a2 hlo
    go_enter Try.func7, Try.ntmps7
    go_wp2_with fail
    refine (awake_calls _).mono ?_
    rintro e w1 ⟨rfl, b1⟩
    have B1 := Lib.hid (below_then B0.out b1 B0.out.size)
    clear b1
    go_wp2_with fail
    refine (LO.out _).mono ?_
    rintro e w2' ⟨rfl, rfl⟩
    go_wp2
    go_ret
    exact ⟨rfl, B1.out⟩
end Go.Proofs.Ytchnfahgmceohaa
