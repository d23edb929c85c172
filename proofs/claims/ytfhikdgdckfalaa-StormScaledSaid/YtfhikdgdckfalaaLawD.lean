/- The law StormScaled returns true. -/
import Derived.Test.YtfhikdgdckfalaaMB18
import Derived.Test.YtfhikdgdckfalaaMB13
import Derived.Test.YtfhikdgdckfalaaSclLaw
import Derived.Test.YtfhikdgdckfalaaScale
import Derived.Test.YtfhikdgdckfalaaRun
import Derived.BigQuiet
import Derived.Deep.DeepCutAuto
import Derived.Deep.RegionHeld3
namespace Go.Proofs.Ytfhikdgdckfalaa
open Go.RowKit
set_option linter.unusedVariables false

/-- Both records stand in their boxes. -/
structure Two (w wx : World) (ga gb : Nat) (s t : SerD) (A : Option Addr) (n c : Nat) (A' : Option Addr) (n' c' : Nat) : Prop where
  a : KSer wx ga s A n c
  b : KSer wx gb t A' n' c'
  z : wx.frozen? ⟨gb, 0, none⟩ = false
  bel : Below w.heap.size w wx
theorem Two.below {w wx wy : World} {ga gb : Nat} {s t : SerD} {A : Option Addr} {n c : Nat} {A' : Option Addr} {n' c' : Nat} (h : Two w wx ga gb s t A n c A' n' c') (hb : Below wx.heap.size wx wy) : Two w wy ga gb s t A n c A' n' c' :=
  ⟨h.a.below hb, h.b.below hb, (hb.frozen (p := ⟨gb, 0, none⟩) h.b.b.lt).trans h.z, below_then h.bel hb h.bel.size⟩
theorem two_box {A A' : Option Addr} {n c n' c' : Nat} {ds ds' : List Int} {f st f' st' : Int} (w : World) (h : Ints w A n c ds) (h' : Ints w A' n' c' ds') : ∃ Wa Wb, w.alloc (serO f st A n c) = Wa ∧ Wa.alloc (serO f' st' A' n' c') = Wb ∧ Two w Wb w.heap.size Wa.heap.size ⟨f, st, ds⟩ ⟨f', st', ds'⟩ A n c A' n' c' ∧ w.heap.size < Wa.heap.size := by
  have ha : Below w.heap.size w (w.alloc (serO f st A n c)) := (Below.refl _ _).alloc (Nat.le_refl _) _
  have k : KSer (w.alloc (serO f st A n c)) w.heap.size ⟨f, st, ds⟩ A n c := ⟨h.alloc _, SBox.made _ _ _ _ _ _⟩
  exact ⟨_, _, rfl, rfl, ⟨k.below ((Below.refl _ _).alloc (Nat.le_refl _) _), ⟨(h'.below ha).alloc _, SBox.made _ _ _ _ _ _⟩, World.frozen?_alloc_new _ _ _ _, ha.alloc ha.size _⟩, by simp⟩

set_option maxHeartbeats 8000000 in
set_option maxRecDepth 100000 in
theorem Scaled_yes {A A' : Option Addr} {n c n' c' : Nat} {ds ds' : List Int} {f st f' st' : Int} (b num den : Int) (w : World) (h : Ints w A n c ds) (h' : Ints w A' n' c' ds')
    (hn : n ≤ 100) (hn' : n' ≤ 100) (hv : validS f st ds = true) (m0 : 1 ≤ num) (m1 : num ≤ 1000) (d0 : 1 ≤ den) (d1 : den ≤ 1000) :
    Calls Try.prog 9 #[serA f st A n c, serA f' st' A' n' c', .int .i64 b, .int .i64 num, .int .i64 den] w fun e w' => e = .returned (.bool true) ∧ Below w.heap.size w w' := by
  obtain ⟨Wa, Wb, hWa, hWb, tw, hgg⟩ := two_box (f := f) (st := st) (f' := f') (st' := st') w h h'
  have T0 := Lib.hid tw
  have hcap := h.cap
  have hmax := h.max
  have hcap' := h'.cap
  have hmax' := h'.max
  have HL := Lib.hid h.len
  have HL' := Lib.hid h'.len
  have HI := Lib.hid h
  have HI' := Lib.hid h'
  have HV := Lib.hid hv
  obtain ⟨fo, hdz⟩ := validS_parts hv
  have HZ := Lib.hid hdz
  have f00 := fo.f0; have f01 := fo.f1; have s00 := fo.s0; have s01 := fo.s1
  have rv := fun W (I : Ints W A n c ds) => rValid_calls f st W I
  rw [hv] at rv
  have RV := Lib.hid rv
  have C1 := Lib.hid (fun W (I : Ints W A n c ds) => Scale_calls ⟨f, st, ds⟩ num den W I)
  have C2 := Lib.hid (fun W (I : Ints W A n c ds) => Scale_calls ⟨f, st, ds⟩ num 1 W I)
  have S1 := Lib.hid (fun W (I : Ints W A n c ds) => Shift_calls f st b W I)
  have P1 : Hid ((scaleV ⟨f, st, ds⟩ num den).2 = 5 ∨ (scaleV ⟨f, st, ds⟩ num den = (⟨f, st, scL ds num den⟩, 0) ∧ scBad ds num den = false)) := Lib.hid (by
    rw [scaleV_ok hv m0 m1 d0 d1]
    cases hq : scBad ds num den
    · right; rw [if_neg (by simp)]; exact ⟨rfl, rfl⟩
    · left; rw [if_pos rfl])
  have P2 : Hid ((scaleV ⟨f, st, ds⟩ num 1).2 = 5 ∨ (scaleV ⟨f, st, ds⟩ num 1 = (⟨f, st, scL ds num 1⟩, 0) ∧ scBad ds num 1 = false)) := Lib.hid (by
    rw [scaleV_ok hv m0 m1 (by omega) (by omega)]
    cases hq : scBad ds num 1
    · right; rw [if_neg (by simp)]; exact ⟨rfl, rfl⟩
    · left; rw [if_pos rfl])
  have P3 : Hid ((shiftV f st ds b).2 = 1 ∨ (shiftV f st ds b).2 = 2 ∨ (shiftV f st ds b = (⟨f + b, st, ds⟩, 0) ∧ validS (f + b) st ds = true ∧ -137438953472 ≤ b ∧ b ≤ 137438953472)) := Lib.hid (by
    rcases shift_two (f := f) (st := st) (ds := ds) b with h | h | h
    · left; rw [h.1]
    · right; left; rw [h]
    · exact .inr (.inr h))
  generalize scaleV ⟨f, st, ds⟩ num den = V1 at *
  generalize scaleV ⟨f, st, ds⟩ num 1 = V2 at *
  generalize shiftV f st ds b = V3 at *
  obtain ⟨⟨xf, xs, xl⟩, xx⟩ := V1
  obtain ⟨⟨yf, ys, yl⟩, yx⟩ := V2
  obtain ⟨⟨vf, vs, vl⟩, vx⟩ := V3
  dsimp only at C1 C2 P1 P2 P3
  have t1 : ¬ 100 < (n : Int) := by omega
  have t2 : ¬ 100 < (n' : Int) := by omega
  have t3 : ¬ num < 1 := by omega
  have t4 : ¬ 1000 < num := by omega
  have t5 : ¬ den < 1 := by omega
  have t6 : ¬ 1000 < den := by omega
  clear h h' tw hv fo hdz rv
  go_enter Try.func9, Try.ntmps9
  go_wp2_with fail
  refine (awake_calls _).mono ?_
  rintro e w1 ⟨rfl, b1⟩
  have T1 := Lib.hid (T0.out.below b1)
  obtain ⟨a0, a1, a2⟩ := T1.out.a.cells
  obtain ⟨e0, e1, e2⟩ := T1.out.b.cells
  dsimp only at a0 a1 a2 e0 e1 e2
  have R1 := Lib.hid (RV.out w1 T1.out.a.i)
  clear b1 T0 hWa hWb
  go_wp2_with fail
  refine (R1.out).mono ?_
  rintro e w2 ⟨rfl, b2⟩
  have T2 := Lib.hid (T1.out.below b2)
  clear b2 a0 a1 a2 e0 e1 e2 T1 R1
  obtain ⟨a0, a1, a2⟩ := T2.out.a.cells
  dsimp only at a0 a1 a2
  go_wp2_with fail
  refine (C1.out _ T2.out.a.i).mono ?_
  rintro e w3 ⟨A3, n3, c3, rfl, i3, b3, -⟩
  obtain ⟨W3, hW3, k3, b3'⟩ := keep_ser i3 b3
  dsimp only at hW3
  have T3 := Lib.hid (T2.out.below b3')
  have K3 := Lib.hid k3
  clear i3 b3 k3 b3' a0 a1 a2 T2 C1 t1 t2
  go_upto_if 65 with fail
  go_cut [] (fun wx => Two w wx w.heap.size Wa.heap.size ⟨f, st, ds⟩ ⟨f', st', ds'⟩ A n c A' n' c')
  case first =>
    as_aux_lemma =>
    clear C2 S1 P2 P3
    rcases P1.out with hx | ⟨hx, hbad⟩
    · subst hx
      clear K3
      go_wp2_with fail
      go_meet
      exact T3.out
    · injection hx with hx1 hx2
      injection hx1 with hx3 hx4 hx5
      replace hx3 := hx3.symm
      replace hx4 := hx4.symm
      replace hx5 := hx5.symm
      subst hx2 hx3 hx4 hx5
      obtain rfl : n3 = n := by rw [← K3.out.i.len, scL_len]; exact HL.out
      have xv := scL_valid (num := num) (den := den) HV.out (by omega) d0 hbad
      have LR := Lib.hid (scL_range (num := num) (den := den) HZ.out (by omega) d0 hbad)
      have LE : Hid (∀ k, k < n3 → el (scL ds num den) k = scF ds num den k) := Lib.hid (fun k hk => el_scL (by rw [HL.out]; exact hk))
      have LN : Hid (∀ k, k < n3 → (scF ds num den k < 0 ↔ el ds k < 0)) := Lib.hid (fun k hk => scF_neg HZ.out (by omega) d0 (by rw [HL.out]; exact hk))
      have LS : Hid (∀ k, k ≤ n3 → sumF (mx0 (scL ds num den)) k = scS ds num den k) := Lib.hid (fun k hk => sum_scL HZ.out (by omega) d0 (by rw [HL.out]; exact hk))
      have LB := Lib.hid (fun k (hk : k ≤ ds.length) => sc_bd HZ.out (by rw [HL.out]; omega) (by omega : 0 ≤ num) (by omega) d0 hk)
      have LD : Hid (∀ k, sumF (mx0 ds) k * num / den = scS ds num den k) := Lib.hid (fun k => rfl)
      obtain ⟨a0, a1, a2⟩ := T3.out.a.cells
      obtain ⟨e0, e1, e2⟩ := K3.out.cells
      dsimp only at a0 a1 a2 e0 e1 e2
      have rx := rValid_calls f st W3 K3.out.i
      dsimp only at rx
      rw [xv] at rx
      have RX := Lib.hid rx
      have hcx := K3.out.i.cap
      have hmx := K3.out.i.max
      clear rx xv hbad hW3
      go_wp2_with fail
      refine (RX.out).mono ?_
      rintro e w4 ⟨rfl, b4⟩
      have T4 := Lib.hid (T3.out.below b4)
      have K4 := Lib.hid (K3.out.below b4)
      clear b4 a0 a1 a2 e0 e1 e2 T3 K3 RX
      obtain ⟨a0, a1, a2⟩ := T4.out.a.cells
      dsimp only at a0 a1 a2
      go_wp2_with fail
      go_loopw [95] (fun vk wr => ∃ k : Nat, k ≤ n3 ∧ vk = .int .i64 k ∧ Two w wr w.heap.size Wa.heap.size ⟨f, st, ds⟩ ⟨f', st', ds'⟩ A n3 c A' n' c' ∧ KSer wr w3.heap.size ⟨f, st, scL ds num den⟩ A3 n3 c3) (fun vk _ => n3 - (intOf vk).toNat)
      case atStart => exact ⟨0, Nat.zero_le _, rfl, T4.out, K4.out⟩
      case round =>
        clear T4 K4 a0 a1 a2
        obtain ⟨k, hk, rfl, hT, hK⟩ := hrel
        generalize wr = wo at *
        have T4 := Lib.hid hT
        have K4 := Lib.hid hK
        by_cases hlt : (k : Int) < (n3 : Int)
        · obtain ⟨m, hm⟩ : ∃ m, k + 1 = m := ⟨_, rfl⟩
          have em : (k : Int) + 1 = (m : Int) := by omega
          have hmn : m ≤ n3 := by omega
          have RQ1 : Hid (∀ j, Calls Try.prog 33 #[.slice A3 n3 c3, .int .i64 0, .int .i64 m] (wo.drewN j) fun e w'' => e = .returned (.int .i64 (scS ds num den m)) ∧ ∃ q, w'' = wo.drewN q) := Lib.hid fun j =>
            (Run_calls 0 m (wo.drewN j) (K4.out.i.drewN j) (fun z hz => (LR.out z hz).2) (by omega) (by omega) (by omega)).mono fun e w' h => ⟨by rw [h.1]; unfold runV; rw [Nat.zero_add, LS.out m hmn]; simp [sumF], j, h.2.symm⟩
          have RQ2 : Hid (∀ j, Calls Try.prog 33 #[.slice A n3 c, .int .i64 0, .int .i64 m] (wo.drewN j) fun e w'' => e = .returned (.int .i64 (sumF (mx0 ds) m)) ∧ ∃ q, w'' = wo.drewN q) := Lib.hid fun j =>
            (Run_calls 0 m (wo.drewN j) (T4.out.a.i.drewN j) (fun z hz => (HZ.out z hz).2) (by omega) (by omega) (by omega)).mono fun e w' h => ⟨by rw [h.1]; unfold runV; rw [Nat.zero_add]; simp [sumF], j, h.2.symm⟩
          have lb := LB.out m (by rw [HL.out]; exact hmn)
          have ld := LD.out m
          have ln := LN.out k (by omega)
          rw [← LE.out k (by omega)] at ln
          obtain ⟨ad, rfl, -, hc⟩ := hT.a.i.at_ (k := k) (by omega)
          obtain ⟨ax, rfl, -, hc2⟩ := hK.i.at_ (k := k) (by omega)
          obtain ⟨a0, a1, a2⟩ := hT.a.cells
          obtain ⟨e0, e1, e2⟩ := hK.cells
          dsimp only at a0 a1 a2 e0 e1 e2 hc hc2
          generalize el (scL ds num den) k = x at *
          generalize el ds k = y at *
          generalize scS ds num den m = Q at *
          generalize sumF (mx0 ds) m = S at *
          obtain ⟨Pd, hP⟩ : ∃ Pd, S * num = Pd := ⟨_, rfl⟩
          rw [hP] at lb ld
          obtain ⟨l0, l1, l2, l3, l4, l5⟩ := lb
          have ld2 : Pd.tdiv den = Q := by rw [Int.tdiv_eq_ediv_of_nonneg l2]; exact ld
          have rm : IntKind.i64.wrap (m : Int) = (m : Int) := IntWalk.i64_in _ (by omega)
          have rP : IntKind.i64.wrap Pd = Pd := IntWalk.i64_in _ (by omega)
          have rQ : IntKind.i64.wrap Q = Q := IntWalk.i64_in _ (by omega)
          have dn : ¬ den = 0 := by omega
          have dn2 : (den == 0) = false := by simp; omega
          have qq : (Q != Q) = false := by simp
          have g0 : (0 : Int) ≤ (k : Int) := by omega
          clear hT hK hm
          by_cases hy : y < 0
          · have hx := ln.2 hy
            have b1 : decide (x < 0) = true := decide_eq_true hx
            have b2 : decide (y < 0) = true := decide_eq_true hy
            clear ln
            go_wp2_with fail
            go_quiet ((go_at_call 33; (first | with_reducible exact RQ1.out _ | with_reducible exact RQ2.out _)))
            have T5 := Lib.hid (T4.out.below (below_drewN (Below.refl _ _) nq))
            have K5 := Lib.hid (K4.out.below (below_drewN (Below.refl _ _) nq))
            clear RQ1 RQ2 a0 a1 a2 e0 e1 e2 hc hc2 T4 K4
            generalize wo.drewN nq = w7 at *
            go_wp2
            go_roundw
            case rel => exact ⟨k + 1, by omega, by go_num, T5.out, K5.out⟩
            case measure => simp [intOf]; omega
          · have hx : ¬ x < 0 := fun h => hy (ln.1 h)
            have b1 : decide (x < 0) = false := decide_eq_false hx
            have b2 : decide (y < 0) = false := decide_eq_false hy
            clear ln
            go_wp2_with fail
            go_quiet ((go_at_call 33; (first | with_reducible exact RQ1.out _ | with_reducible exact RQ2.out _)))
            have T5 := Lib.hid (T4.out.below (below_drewN (Below.refl _ _) nq))
            have K5 := Lib.hid (K4.out.below (below_drewN (Below.refl _ _) nq))
            clear RQ1 RQ2 a0 a1 a2 e0 e1 e2 hc hc2 T4 K4
            generalize wo.drewN nq = w7 at *
            go_wp2
            go_roundw
            case rel => exact ⟨k + 1, by omega, by go_num, T5.out, K5.out⟩
            case measure => simp [intOf]; omega
        · clear hT hK
          go_wp2_with fail
          go_meet
          exact T4.out
  case rest =>
    rename World => W4
    have T4 := Lib.hid hcut
    clear T3 K3 P1 hcut hW3
    obtain ⟨a0, a1, a2⟩ := T4.out.a.cells
    dsimp only at a0 a1 a2
    go_wp2_with fail
    refine (C2.out _ T4.out.a.i).mono ?_
    rintro e w5 ⟨A5, n5, c5, rfl, i5, b5, -⟩
    obtain ⟨W5, hW5, k5, b5'⟩ := keep_ser i5 b5
    dsimp only at hW5
    have T5 := Lib.hid (T4.out.below b5')
    have K5 := Lib.hid k5
    clear i5 b5 k5 b5' a0 a1 a2 T4 C2
    go_upto_if 138 with fail
    go_cut [] (fun wx => Two w wx w.heap.size Wa.heap.size ⟨f, st, ds⟩ ⟨f', st', ds'⟩ A n c A' n' c')
    case first =>
      as_aux_lemma =>
      clear S1 P3
      rcases P2.out with hx | ⟨hx, hbad⟩
      · subst hx
        clear K5
        go_wp2_with fail
        go_meet
        exact T5.out
      · injection hx with hx1 hx2
        injection hx1 with hx3 hx4 hx5
        replace hx3 := hx3.symm
        replace hx4 := hx4.symm
        replace hx5 := hx5.symm
        subst hx2 hx3 hx4 hx5
        have sb := Scale_calls ⟨f, st, scL ds num 1⟩ 1 num W5 K5.out.i
        rw [scale_back HV.out m0 m1 hbad] at sb
        have SB := Lib.hid sb
        obtain ⟨e0, e1, e2⟩ := K5.out.cells
        dsimp only at e0 e1 e2 SB
        clear sb hbad hW5
        go_wp2_with fail
        refine (SB.out).mono ?_
        rintro e w6 ⟨A6, n6, c6, rfl, i6, b6, -⟩
        obtain ⟨W6, hW6, k6, b6'⟩ := keep_ser i6 b6
        dsimp only at hW6
        have T6 := Lib.hid (T5.out.below b6')
        have K6 := Lib.hid k6
        clear i6 b6 k6 b6' e0 e1 e2 T5 K5
        have Q1 := Lib.hid (Same_ser f st W6 K6.out.i T6.out.a.i)
        obtain ⟨a0, a1, a2⟩ := T6.out.a.cells
        obtain ⟨e0, e1, e2⟩ := K6.out.cells
        dsimp only at a0 a1 a2 e0 e1 e2
        go_wp2_with fail
        refine (Q1.out).mono ?_
        rintro e w7 ⟨rfl, b7⟩
        have T7 := Lib.hid (T6.out.below b7)
        clear b7 a0 a1 a2 e0 e1 e2 T6
        go_wp2_with fail
        go_meet
        exact T7.out
    case rest =>
      rename World => W6
      have T6 := Lib.hid hcut
      clear T5 K5 P2 hcut hW5
      obtain ⟨a0, a1, a2⟩ := T6.out.a.cells
      dsimp only at a0 a1 a2
      go_wp2_with fail
      refine (S1.out _ T6.out.a.i).mono ?_
      rintro e w7 ⟨A7, n7, c7, rfl, i7, b7, -⟩
      obtain ⟨W7, hW7, k7, b7'⟩ := keep_ser i7 b7
      dsimp only at hW7
      have T7 := Lib.hid (T6.out.below b7')
      have K7 := Lib.hid k7
      clear i7 b7 k7 b7' a0 a1 a2 T6 S1
      go_upto_if 160 with fail
      go_cut [] (fun wx => Two w wx w.heap.size Wa.heap.size ⟨f, st, ds⟩ ⟨f', st', ds'⟩ A n c A' n' c')
      case first =>
        as_aux_lemma =>
        rcases P3.out with hx | hx | ⟨hx, hv2, bl, bh⟩
        · subst hx
          clear K7
          go_wp2_with fail
          go_meet
          exact T7.out
        · subst hx
          clear K7
          go_wp2_with fail
          go_meet
          exact T7.out
        · injection hx with hx1 hx2
          injection hx1 with hx3 hx4 hx5
          replace hx3 := hx3.symm
          replace hx4 := hx4.symm
          replace hx5 := hx5.symm
          subst hx2 hx3 hx4 hx5
          have sb := Shift_calls (f + b) st (-b) W7 K7.out.i
          rw [shift_back HV.out hv2 bl bh] at sb
          have SB := Lib.hid sb
          obtain ⟨F, hF⟩ : ∃ F, f + b = F := ⟨_, rfl⟩
          rw [hF] at SB K7
          obtain ⟨e0, e1, e2⟩ := K7.out.cells
          dsimp only at e0 e1 e2 SB
          clear sb hv2 hW7
          go_wp2_with fail
          refine (SB.out).mono ?_
          rintro e w8 ⟨A8, n8, c8, rfl, i8, b8, -⟩
          obtain ⟨W8, hW8, k8, b8'⟩ := keep_ser i8 b8
          dsimp only at hW8
          have T8 := Lib.hid (T7.out.below b8')
          have K7 := Lib.hid (K7.out.below b8')
          have K8 := Lib.hid k8
          clear i8 b8 k8 b8' e0 e1 e2 T7
          have Q1 := Lib.hid (Same_ser f st W8 K8.out.i T8.out.a.i)
          obtain ⟨a0, a1, a2⟩ := T8.out.a.cells
          obtain ⟨e0, e1, e2⟩ := K8.out.cells
          dsimp only at a0 a1 a2 e0 e1 e2
          go_wp2_with fail
          refine (Q1.out).mono ?_
          rintro e w9 ⟨rfl, b9⟩
          have T9 := Lib.hid (T8.out.below b9)
          have K9 := Lib.hid (K7.out.below b9)
          clear b9 a0 a1 a2 e0 e1 e2 T8 K8
          obtain ⟨a0, a1, a2⟩ := T9.out.a.cells
          obtain ⟨e0, e1, e2⟩ := K9.out.cells
          dsimp only at a0 a1 a2 e0 e1 e2
          have ff : (F != F) = false := by simp
          go_wp2_with fail
          go_meet
          exact T9.out
      case rest =>
        rename World => W8
        have T8 := Lib.hid hcut
        clear T7 K7 P3 hcut hW7
        obtain ⟨e0, e1, e2⟩ := T8.out.b.cells
        obtain ⟨a0, a1, a2⟩ := T8.out.a.cells
        dsimp only at a0 a1 a2 e0 e1 e2
        have rvb := rValid_calls f' st' W8 T8.out.b.i
        dsimp only at rvb
        cases hv' : validS f' st' ds'
        · rw [hv'] at rvb
          have RB := Lib.hid rvb
          clear rvb hv'
          go_wp2_with fail
          refine (RB.out).mono ?_
          rintro e w9 ⟨rfl, b9⟩
          have T9 := Lib.hid (T8.out.below b9)
          clear b9
          go_wp2
          go_ret
          exact ⟨rfl, T9.out.bel⟩
        rw [hv'] at rvb
        have RB := Lib.hid rvb
        clear rvb hv'
        by_cases hst : st' = st
        · obtain rfl : st = st' := hst.symm
          obtain ⟨fo, -⟩ := validS_parts HV.out
          have n01 : n ≤ 10000 := by omega
          have fe0 := fo.e0
          have fe1 := fo.e1
          rw [HL.out] at fe0 fe1
          have hm0 : 0 ≤ st * (n : Int) := Int.mul_nonneg (by omega) (by omega)
          have hm1 : st * (n : Int) ≤ 86400 * 10000 := Int.mul_le_mul (by omega) (by omega) (by omega) (by omega)
          have jn := join_next (ds' := ds') HV.out (by rw [HL.out, HL'.out]; omega)
          rw [HL.out] at jn
          obtain ⟨M, hM⟩ : ∃ M, st * (n : Int) = M := ⟨_, rfl⟩
          obtain ⟨F, hF⟩ : ∃ F, f + M = F := ⟨_, rfl⟩
          rw [hM] at hm0 hm1 fe0 fe1 jn
          rw [hF] at fe0 fe1 jn
          have JN := Lib.hid jn
          have ss1 : (st != st) = false := by simp
          clear fo hst jn
          go_wp2_with fail
          refine (RB.out).mono ?_
          rintro e w9 ⟨rfl, b9⟩
          have T9 := Lib.hid (T8.out.below b9)
          clear b9 a0 a1 a2 e0 e1 e2 T8 RB
          obtain ⟨e0, e1, e2⟩ := T9.out.b.cells
          obtain ⟨a0, a1, a2⟩ := T9.out.a.cells
          have ez := T9.out.z
          dsimp only at a0 a1 a2 e0 e1 e2
          obtain ⟨WS, hWS⟩ : ∃ WS, w9.setCell ⟨Wa.heap.size, 0, none⟩ (.int .i64 F) = WS := ⟨_, rfl⟩
          have sbel : Below w.heap.size w WS := by rw [← hWS]; exact T9.out.bel.setCell (p := ⟨Wa.heap.size, 0, none⟩) (by show w.heap.size ≤ Wa.heap.size; omega) _
          have sa : SBox WS w.heap.size f st A n c := by
            rw [← hWS]
            exact ⟨by rw [World.cell?_setCell_other w9 _ _ _ (by intro e; injection e with e1; omega)]; exact a0, by rw [World.cell?_setCell_other w9 _ _ _ (by intro e; injection e with e1; omega)]; exact a1, by rw [World.cell?_setCell_other w9 _ _ _ (by intro e; injection e with e1; omega)]; exact a2, by simp [World.setCell]; exact T9.out.a.b.lt⟩
          have sb : SBox WS Wa.heap.size F st A' n' c' := by
            rw [← hWS]
            exact ⟨World.cell?_setCell_same _ _ _ e0, by rw [World.cell?_setCell_other w9 _ _ _ (by simp)]; exact e1, by rw [World.cell?_setCell_other w9 _ _ _ (by simp)]; exact e2, by simp [World.setCell]; exact T9.out.b.b.lt⟩
          have ka : KSer WS w.heap.size ⟨f, st, ds⟩ A n c := ⟨HI.out.below sbel, sa⟩
          have kb : KSer WS Wa.heap.size ⟨F, st, ds'⟩ A' n' c' := ⟨HI'.out.below sbel, sb⟩
          have KA := Lib.hid ka
          have KB := Lib.hid kb
          have SB := Lib.hid sbel
          have JC := Lib.hid (Join_calls ⟨f, st, ds⟩ ⟨F, st, ds'⟩ WS ka.i kb.i)
          have rvc := fun W (I : Ints W A' n' c' ds') => rValid_calls F st W I
          obtain ⟨p0, p1, p2⟩ := ka.cells
          obtain ⟨q0, q1, q2⟩ := kb.cells
          dsimp only at p0 p1 p2 q0 q1 q2
          rw [JN.out] at JC
          clear sbel sa sb ka kb T9 JN
          cases hvc : validS F st ds'
          · rw [if_pos hvc] at JC
            unfold zeroS at JC
            simp only [hvc] at rvc
            have RC := Lib.hid rvc
            have HWS := Lib.hid hWS
            clear rvc hvc
            dsimp only at JC
            go_wp2_with fail
            refine (JC.out).mono ?_
            rintro e w10 ⟨A10, n10, c10, rfl, i10, b10, -⟩
            obtain ⟨W10, hW10, k10, b10'⟩ := keep_ser i10 b10
            have KB := Lib.hid (KB.out.below b10')
            have SB := Lib.hid (below_then SB.out b10' SB.out.size)
            dsimp only at hW10
            clear i10 b10 k10 b10' p0 p1 p2 q0 q1 q2 a0 a1 a2 e0 e1 e2 ez hWS
            obtain ⟨q0, q1, q2⟩ := KB.out.cells
            dsimp only at q0 q1 q2
            go_wp2_with fail
            refine (RC.out _ KB.out.i).mono ?_
            rintro e w11 ⟨rfl, b11⟩
            have SB := Lib.hid (below_then SB.out b11 SB.out.size)
            clear b11
            go_wp2
            go_ret
            exact ⟨rfl, SB.out⟩
          · rw [if_neg (by rw [hvc]; simp)] at JC
            simp only [hvc] at rvc
            have RC := Lib.hid rvc
            clear rvc hvc
            dsimp only at JC
            go_wp2_with fail
            refine (JC.out).mono ?_
            rintro e w10 ⟨A10, n10, c10, rfl, i10, b10, -⟩
            obtain ⟨W10, hW10, k10, b10'⟩ := keep_ser i10 b10
            dsimp only at hW10
            have KA := Lib.hid (KA.out.below b10')
            have KB := Lib.hid (KB.out.below b10')
            have KV := Lib.hid k10
            have SB := Lib.hid (below_then SB.out b10' SB.out.size)
            clear i10 b10 k10 b10' p0 p1 p2 q0 q1 q2 a0 a1 a2 e0 e1 e2 ez hWS
            obtain ⟨q0, q1, q2⟩ := KB.out.cells
            dsimp only at q0 q1 q2
            go_wp2_with fail
            refine (RC.out _ KB.out.i).mono ?_
            rintro e w11 ⟨rfl, b11⟩
            have KA := Lib.hid (KA.out.below b11)
            have KB := Lib.hid (KB.out.below b11)
            have KV := Lib.hid (KV.out.below b11)
            have SB := Lib.hid (below_then SB.out b11 SB.out.size)
            clear b11 q0 q1 q2 hW10
            obtain ⟨p0, p1, p2⟩ := KA.out.cells
            obtain ⟨q0, q1, q2⟩ := KB.out.cells
            obtain ⟨v0, v1, v2⟩ := KV.out.cells
            dsimp only at p0 p1 p2 q0 q1 q2 v0 v1 v2
            have ff : (f == f) = true := by simp
            have sf : (st == st) = true := by simp
            have ba : Below w11.heap.size w11 (w11.alloc (.cells #[.slice A n c, .slice A' n' c'] 23)).drew := below_drewN ((Below.refl w11.heap.size w11).alloc (Nat.le_refl _) _) 1
            have tc := two_cells (w := w11) (g := 0) (a := .slice A n c) (b := .slice A' n' c') (t := 23)
            have CC := Lib.hid (Concat_two w11.heap.size (w11.alloc (.cells #[.slice A n c, .slice A' n' c'] 23)).drew (by show w11.heap.size < (w11.alloc _).heap.size; simp) tc.1 tc.2 (KA.out.i.below ba) (KB.out.i.below ba) (by omega))
            have KC : Hid (∀ W, Below w11.heap.size w11 W → W.cell? ⟨w.heap.size, 0, none⟩ = some (.int .i64 f) ∧ W.cell? ⟨w.heap.size, 1, none⟩ = some (.int .i64 st) ∧ W.cell? ⟨w.heap.size, 2, none⟩ = some (.slice A n c) ∧ W.cell? ⟨Wa.heap.size, 2, none⟩ = some (.slice A' n' c') ∧ W.cell? ⟨w10.heap.size, 0, none⟩ = some (.int .i64 f) ∧ W.cell? ⟨w10.heap.size, 1, none⟩ = some (.int .i64 st) ∧ W.cell? ⟨w10.heap.size, 2, none⟩ = some (.slice A10 n10 c10)) := Lib.hid fun W b =>
              ⟨(b.cell (p := ⟨w.heap.size, 0, none⟩) KA.out.b.lt).trans p0, (b.cell (p := ⟨w.heap.size, 1, none⟩) KA.out.b.lt).trans p1, (b.cell (p := ⟨w.heap.size, 2, none⟩) KA.out.b.lt).trans p2, (b.cell (p := ⟨Wa.heap.size, 2, none⟩) KB.out.b.lt).trans q2, (b.cell (p := ⟨w10.heap.size, 0, none⟩) KV.out.b.lt).trans v0, (b.cell (p := ⟨w10.heap.size, 1, none⟩) KV.out.b.lt).trans v1, (b.cell (p := ⟨w10.heap.size, 2, none⟩) KV.out.b.lt).trans v2⟩
            have KD := Lib.hid (KC.out _ ba)
            have BA := Lib.hid ba
            have EQ : Hid (∀ W A1 m1 k1, Below w11.heap.size w11 W → Ints W A1 m1 k1 (ds ++ ds') → Calls Try.prog 41 #[.slice A10 n10 c10, .slice A1 m1 k1] W fun e w' => e = .returned (.bool true) ∧ Below W.heap.size W w') := Lib.hid fun W A1 m1 k1 b i => equal_same W (KV.out.i.below b) i
            clear ba tc q0 q1
            go_wp2_with fail
            go_region_held3 (fun W => W.cell? ⟨w.heap.size, 0, none⟩ = some (.int .i64 f) ∧ W.cell? ⟨w.heap.size, 1, none⟩ = some (.int .i64 st) ∧ W.cell? ⟨w.heap.size, 2, none⟩ = some (.slice A n c) ∧ W.cell? ⟨Wa.heap.size, 2, none⟩ = some (.slice A' n' c') ∧ W.cell? ⟨w10.heap.size, 0, none⟩ = some (.int .i64 f) ∧ W.cell? ⟨w10.heap.size, 1, none⟩ = some (.int .i64 st) ∧ W.cell? ⟨w10.heap.size, 2, none⟩ = some (.slice A10 n10 c10)) (first | exact KD.out | exact KC.out _ (by assumption) | go_keep) ((first
              | (go_at_call 42; (with_reducible refine CC.out.mono ?_); rintro e w12 ⟨v4, rfl, o4, b4⟩; obtain ⟨A4, n4, c4, rfl, i4, g4⟩ := o4.ints; have bb := below_then BA.out b4 BA.out.size; have EQ1 := Lib.hid (EQ.out w12 A4 n4 c4 bb i4))
              | (go_at_call 41; (with_reducible refine EQ1.out.mono ?_); rintro e w13 ⟨rfl, b13⟩; have bf := below_then bb b13 bb.size)))
            have SF := Lib.hid (below_then SB.out bf SB.out.size)
            clear bf bb
            go_wp2
            go_ret
            exact ⟨ret_b (by simp), SF.out⟩
        · have ss1 : (st' != st) = true := by simp [hst]
          clear hst
          go_wp2_with fail
          refine (RB.out).mono ?_
          rintro e w9 ⟨rfl, b9⟩
          have T9 := Lib.hid (T8.out.below b9)
          clear b9 a0 a1 a2 e0 e1 e2 T8 RB
          obtain ⟨e0, e1, e2⟩ := T9.out.b.cells
          obtain ⟨a0, a1, a2⟩ := T9.out.a.cells
          dsimp only at a0 a1 a2 e0 e1 e2
          go_wp2
          go_ret
          exact ⟨rfl, T9.out.bel⟩

set_option maxHeartbeats 4000000 in
set_option maxRecDepth 100000 in
theorem Scaled_no {A A' : Option Addr} {n c n' c' : Nat} {ds ds' : List Int} {f st f' st' : Int} (b num den : Int) (w : World) (h : Ints w A n c ds) (h' : Ints w A' n' c' ds')
    (hno : ¬ (n ≤ 100 ∧ n' ≤ 100 ∧ validS f st ds = true ∧ 1 ≤ num ∧ num ≤ 1000 ∧ 1 ≤ den ∧ den ≤ 1000)) :
    Calls Try.prog 9 #[serA f st A n c, serA f' st' A' n' c', .int .i64 b, .int .i64 num, .int .i64 den] w fun e w' => e = .returned (.bool true) ∧ Below w.heap.size w w' := by
  obtain ⟨Wa, Wb, hWa, hWb, tw, hgg⟩ := two_box (f := f) (st := st) (f' := f') (st' := st') w h h'
  have T0 := Lib.hid tw
  have hcap := h.cap
  have hmax := h.max
  have hcap' := h'.cap
  have hmax' := h'.max
  have rv := fun W (I : Ints W A n c ds) => rValid_calls f st W I
  have HN := Lib.hid hno
  clear h h' tw hno
  by_cases h1 : 100 < n
  · have t1 : 100 < (n : Int) := by omega
    clear rv HN
    go_enter Try.func9, Try.ntmps9
    go_wp2_with fail
    refine (awake_calls _).mono ?_
    rintro e w1 ⟨rfl, b1⟩
    have T1 := Lib.hid (T0.out.below b1)
    obtain ⟨a0, a1, a2⟩ := T1.out.a.cells
    dsimp only at a0 a1 a2
    clear b1 T0 hWa hWb
    go_wp2
    go_ret
    exact ⟨rfl, T1.out.bel⟩
  have t1 : ¬ 100 < (n : Int) := by omega
  by_cases h2 : 100 < n'
  · have t2 : 100 < (n' : Int) := by omega
    clear rv HN
    go_enter Try.func9, Try.ntmps9
    go_wp2_with fail
    refine (awake_calls _).mono ?_
    rintro e w1 ⟨rfl, b1⟩
    have T1 := Lib.hid (T0.out.below b1)
    obtain ⟨a0, a1, a2⟩ := T1.out.a.cells
    obtain ⟨e0, e1, e2⟩ := T1.out.b.cells
    dsimp only at a0 a1 a2 e0 e1 e2
    clear b1 T0 hWa hWb
    go_wp2
    go_ret
    exact ⟨rfl, T1.out.bel⟩
  have t2 : ¬ 100 < (n' : Int) := by omega
  cases hv : validS f st ds
  · rw [hv] at rv
    have RV := Lib.hid rv
    clear rv HN hv
    go_enter Try.func9, Try.ntmps9
    go_wp2_with fail
    refine (awake_calls _).mono ?_
    rintro e w1 ⟨rfl, b1⟩
    have T1 := Lib.hid (T0.out.below b1)
    obtain ⟨a0, a1, a2⟩ := T1.out.a.cells
    obtain ⟨e0, e1, e2⟩ := T1.out.b.cells
    dsimp only at a0 a1 a2 e0 e1 e2
    have R1 := Lib.hid (RV.out w1 T1.out.a.i)
    clear b1 T0 hWa hWb
    go_wp2_with fail
    refine (R1.out).mono ?_
    rintro e w2 ⟨rfl, b2⟩
    have T2 := Lib.hid (T1.out.below b2)
    clear b2
    go_wp2
    go_ret
    exact ⟨rfl, T2.out.bel⟩
  rw [hv] at rv
  have RV := Lib.hid rv
  have hx : num < 1 ∨ (¬ num < 1 ∧ 1000 < num) ∨ (¬ num < 1 ∧ ¬ 1000 < num ∧ den < 1) ∨ (¬ num < 1 ∧ ¬ 1000 < num ∧ ¬ den < 1 ∧ 1000 < den) := by
    have := HN.out
    by_cases c1 : num < 1
    · exact .inl c1
    by_cases c2 : 1000 < num
    · exact .inr (.inl ⟨c1, c2⟩)
    by_cases c3 : den < 1
    · exact .inr (.inr (.inl ⟨c1, c2, c3⟩))
    by_cases c4 : 1000 < den
    · exact .inr (.inr (.inr ⟨c1, c2, c3, c4⟩))
    exact absurd ⟨by omega, by omega, hv, by omega, by omega, by omega, by omega⟩ this
  clear rv HN hv
  rcases hx with c1 | ⟨c1, c2⟩ | ⟨c1, c2, c3⟩ | ⟨c1, c2, c3, c4⟩ <;> (
    go_enter Try.func9, Try.ntmps9
    go_wp2_with fail
    refine (awake_calls _).mono ?_
    rintro e w1 ⟨rfl, b1⟩
    have T1 := Lib.hid (T0.out.below b1)
    obtain ⟨a0, a1, a2⟩ := T1.out.a.cells
    obtain ⟨e0, e1, e2⟩ := T1.out.b.cells
    dsimp only at a0 a1 a2 e0 e1 e2
    have R1 := Lib.hid (RV.out w1 T1.out.a.i)
    clear b1 T0 hWa hWb
    go_wp2_with fail
    refine (R1.out).mono ?_
    rintro e w2 ⟨rfl, b2⟩
    have T2 := Lib.hid (T1.out.below b2)
    clear b2
    go_wp2
    go_ret
    exact ⟨rfl, T2.out.bel⟩)

theorem Scaled_calls {A A' : Option Addr} {n c n' c' : Nat} {ds ds' : List Int} {f st f' st' : Int} (b num den : Int) (w : World) (h : Ints w A n c ds) (bf : -9223372036854775808 ≤ f ∧ f ≤ 9223372036854775807) (bs : -9223372036854775808 ≤ st ∧ st ≤ 9223372036854775807)
    (h' : Ints w A' n' c' ds') (bf' : -9223372036854775808 ≤ f' ∧ f' ≤ 9223372036854775807) (bs' : -9223372036854775808 ≤ st' ∧ st' ≤ 9223372036854775807) (bb : -9223372036854775808 ≤ b ∧ b ≤ 9223372036854775807) (bn : -9223372036854775808 ≤ num ∧ num ≤ 9223372036854775807) (bd : -9223372036854775808 ≤ den ∧ den ≤ 9223372036854775807) :
    Calls Try.prog 9 #[serA f st A n c, serA f' st' A' n' c', .int .i64 b, .int .i64 num, .int .i64 den] w fun e w' => e = .returned (.bool true) ∧ Below w.heap.size w w' := by
  by_cases hy : n ≤ 100 ∧ n' ≤ 100 ∧ validS f st ds = true ∧ 1 ≤ num ∧ num ≤ 1000 ∧ 1 ≤ den ∧ den ≤ 1000
  · exact Scaled_yes b num den w h h' hy.1 hy.2.1 hy.2.2.1 hy.2.2.2.1 hy.2.2.2.2.1 hy.2.2.2.2.2.1 hy.2.2.2.2.2.2
  · exact Scaled_no b num den w h h' hy
end Go.Proofs.Ytfhikdgdckfalaa
