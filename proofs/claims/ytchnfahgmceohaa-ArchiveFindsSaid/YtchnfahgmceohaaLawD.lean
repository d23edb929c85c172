/- The law ArchiveFinds returns true. -/
import Derived.Test.YtchnfahgmceohaaAwake
import Derived.Test.YtchnfahgmceohaaSerOne
import Derived.Test.YtchnfahgmceohaaHurtLaw
import Derived.Test.YtchnfahgmceohaaCutLaw
import Derived.Test.YtchnfahgmceohaaClone
import Derived.Test.YtchnfahgmceohaaDec
namespace Go.Proofs.Ytchnfahgmceohaa
open Go.RowKit
set_option linter.unusedVariables false

theorem SBox.cells {w : World} {p : Nat} {f st : Int} {A : Option Addr} {n c : Nat} (h : SBox w p f st A n c) : w.cell? ⟨p, 0, none⟩ = some (.int .i64 f) ∧ w.cell? ⟨p, 1, none⟩ = some (.int .i64 st) ∧ w.cell? ⟨p, 2, none⟩ = some (.slice A n c) ∧ p < w.heap.size := ⟨h.c0, h.c1, h.c2, h.lt⟩
theorem frst_lt {bs : List Int} : ∀ {k : Nat}, k < frst bs → 128 ≤ el bs k := by
  induction bs with
  | nil => intro k h; exact absurd h (by simp [frst])
  | cons z r ih =>
    intro k h
    rw [frst] at h
    split at h
    · omega
    · match k with
      | 0 => show 128 ≤ z; omega
      | k + 1 => exact ih (by omega)
theorem frst_stop {bs : List Int} (h : frst bs < bs.length) : el bs (frst bs) < 128 := by
  induction bs with
  | nil => simp at h
  | cons z r ih =>
    rw [frst] at h ⊢
    split
    · rename_i hz; exact hz
    · rename_i hz; rw [if_neg hz] at h; exact ih (by simpa using h)
theorem el_drop (bs : List Int) (k j : Nat) : el (bs.drop k) j = el bs (k + j) := by
  unfold el; rw [List.getD_eq_getElem?_getD, List.getD_eq_getElem?_getD, List.getElem?_drop]

set_option maxRecDepth 100000 in
set_option maxHeartbeats 4000000 in
theorem Finds_calls {f st : Int} {A : Option Addr} {n c : Nat} {ds : List Int} (at_ by_ : Int) (w : World) (h : Ints w A n c ds) (bf : -9223372036854775808 ≤ f ∧ f ≤ 9223372036854775807) (bst : -9223372036854775808 ≤ st ∧ st ≤ 9223372036854775807) (hat : 0 ≤ at_ ∧ at_ ≤ 65535) (hby : 0 ≤ by_ ∧ by_ ≤ 255) :
    Calls Try.prog 6 #[serA f st A n c, .int .u16 at_, .int .u8 by_] w fun e w' => e = .returned (.bool true) ∧ Below w.heap.size w w' := by
  obtain ⟨s, hs⟩ : ∃ s : SerD, s = ⟨f, st, ds⟩ := ⟨_, rfl⟩
  obtain rfl : f = s.f := by rw [hs]
  obtain rfl : st = s.st := by rw [hs]
  obtain rfl : ds = s.ds := by rw [hs]
  have hb0 : Below w.heap.size w (w.alloc (serO s.f s.st A n c)) := (Below.refl _ _).alloc (Nat.le_refl _) _
  have H0 := Lib.hid (h.below hb0)
  have X0 := Lib.hid (SBox.made w s.f s.st A n c)
  have B0 := Lib.hid hb0
  have lg := fun W (I : Ints W A n c s.ds) => large_calls (W.alloc (serO s.f s.st A n c)) (Sers.one I)
  have gv := fun W (I : Ints W A n c s.ds) => gValid_calls s.f s.st W I
  clear hb0 h hs
  cases hq : largeB [s]
  · rw [hq] at lg
    cases hv : validS s.f s.st s.ds
    · rw [hv] at gv
      have LG := Lib.hid lg
      have GV := Lib.hid gv
      clear lg gv hq hv
      go_enter Try.func6, Try.ntmps6
      go_wp2_with fail
      refine (awake_calls _).mono ?_
      rintro e w1 ⟨rfl, b1⟩
      have H1 := Lib.hid (H0.out.below b1)
      obtain ⟨x0, x1, x2, xl⟩ := (X0.out.below b1 X0.out.lt).cells
      have X1 : Hid (SBox w1 w.heap.size s.f s.st A n c) := Lib.hid (X0.out.below b1 X0.out.lt)
      have B1 := Lib.hid (below_then B0.out b1 B0.out.size)
      clear b1
      have lg1 := LG.out _ H1.out
      have LG1 := Lib.hid lg1
      clear lg1
      go_wp2_with fail
      refine (LG1.out).mono ?_
      rintro e w2 ⟨rfl, b2⟩
      have b2' := ((Below.refl w1.heap.size w1).alloc (Nat.le_refl _) (serO s.f s.st A n c)).trans (b2.mono (by simp))
      have H2 := Lib.hid (H1.out.below b2')
      obtain ⟨y0, y1, y2, yl⟩ := (X1.out.below b2' X1.out.lt).cells
      have B2 := Lib.hid (below_then B1.out b2' B1.out.size)
      clear b2 b2'
      go_wp2_with fail
      refine (GV.out _ H2.out).mono ?_
      rintro e w3 ⟨rfl, b3⟩
      have B3 := Lib.hid (below_then B2.out b3 B2.out.size)
      clear b3
      go_wp2
      go_ret
      exact ⟨rfl, B3.out⟩
    · rw [hv] at gv
      have LG := Lib.hid lg
      have GV := Lib.hid gv
      clear lg gv
      by_cases hb : by_ = 0
      · subst hb
        clear hq hv hby
        go_enter Try.func6, Try.ntmps6
        go_wp2_with fail
        refine (awake_calls _).mono ?_
        rintro e w1 ⟨rfl, b1⟩
        have H1 := Lib.hid (H0.out.below b1)
        obtain ⟨x0, x1, x2, xl⟩ := (X0.out.below b1 X0.out.lt).cells
        have X1 : Hid (SBox w1 w.heap.size s.f s.st A n c) := Lib.hid (X0.out.below b1 X0.out.lt)
        have B1 := Lib.hid (below_then B0.out b1 B0.out.size)
        clear b1
        have lg1 := LG.out _ H1.out
        have LG1 := Lib.hid lg1
        clear lg1
        go_wp2_with fail
        refine (LG1.out).mono ?_
        rintro e w2 ⟨rfl, b2⟩
        have b2' := ((Below.refl w1.heap.size w1).alloc (Nat.le_refl _) (serO s.f s.st A n c)).trans (b2.mono (by simp))
        have H2 := Lib.hid (H1.out.below b2')
        obtain ⟨y0, y1, y2, yl⟩ := (X1.out.below b2' X1.out.lt).cells
        have X2 : Hid (SBox w2 w.heap.size s.f s.st A n c) := Lib.hid (X1.out.below b2' X1.out.lt)
        have B2 := Lib.hid (below_then B1.out b2' B1.out.size)
        clear b2 b2'
        go_wp2_with fail
        refine (GV.out _ H2.out).mono ?_
        rintro e w3 ⟨rfl, b3⟩
        have H3 := Lib.hid (H2.out.below b3)
        obtain ⟨z0, z1, z2, zl⟩ := (X2.out.below b3 X2.out.lt).cells
        have B3 := Lib.hid (below_then B2.out b3 B2.out.size)
        clear b3
        go_wp2
        go_ret
        exact ⟨rfl, B3.out⟩
      · have hvd : validD s = true := hv
        have hb1 : (by_ == 0) = false := by simp [hb]
        have hvs : ∀ x ∈ [s], validD x = true := fun x hx => by rw [List.mem_singleton] at hx; rw [hx]; exact hvd
        have hd := few_small hq (by simp) hvs
        obtain ⟨l0, l1⟩ := enc_len8 hd (by simp)
        have e1 := fun W (I : Ints W A n c s.ds) => Encode_calls (W.alloc (serO s.f s.st A n c)) (Sers.one I) (few_of hq)
        rw [EncV_of hvs (by simp)] at e1
        have hfr := head_frst hvd
        have htl := tail_len s
        have hpl := (payL_len s.f s.st s.ds).1
        have hN := congrArg List.length (enc_one s)
        rw [List.length_append] at hN
        have hurt := fun (hr : ∀ z ∈ encL [s], 0 ≤ z ∧ z ≤ 255) (k : Nat) (y : Int) (hk : (headL s).length ≤ k) (hk2 : k < (encL [s]).length) (hy : 0 ≤ y ∧ y ≤ 255) (hne : ¬ y = el (encL [s]) k) => hurt_dec hvd hr (by omega) hk hk2 hy hne
        have hdl : ((encL [s]).drop 3).length + 3 = (encL [s]).length := by rw [List.length_drop]; omega
        have HGE : Hid (∀ k, 3 ≤ k → k < 3 + frst ((encL [s]).drop 3) → ¬ el (encL [s]) k < 128) := Lib.hid fun k h3 hk => by
          have := frst_lt (bs := (encL [s]).drop 3) (k := k - 3) (by omega)
          rw [el_drop, show 3 + (k - 3) = k by omega] at this
          omega
        have HLT : Hid (el (encL [s]) (3 + frst ((encL [s]).drop 3)) < 128) := Lib.hid (by
          have := frst_stop (bs := (encL [s]).drop 3) (by omega)
          rwa [el_drop] at this)
        generalize hBS : encL [s] = bs at *
        obtain ⟨J, hJ⟩ : ∃ J, 3 + frst (bs.drop 3) = J := ⟨_, rfl⟩
        rw [hJ] at HGE HLT hfr
        obtain ⟨T, hT⟩ : ∃ T, (tailL s).length = T := ⟨_, rfl⟩
        obtain ⟨N, hNN⟩ : ∃ N, bs.length = N := ⟨_, rfl⟩
        have hq0 := Int.emod_nonneg at_ (show (T : Int) ≠ 0 by omega)
        have hq1 := Int.emod_lt_of_pos at_ (show 0 < (T : Int) by omega)
        obtain ⟨q, hq2⟩ := Int.eq_ofNat_of_zero_le hq0
        obtain ⟨K, hK⟩ : ∃ K, J + 1 + q = K := ⟨_, rfl⟩
        have k0 : (N : Int) - (J : Int) - 1 = (T : Int) := by omega
        have k1 : at_ % (T : Int) = (q : Int) := hq2
        have k2 : (J : Int) + 1 + (q : Int) = (K : Int) := by omega
        have k3 : (K : Int) < (N : Int) := by omega
        have k4 : (N : Int) ≤ 40000 := by omega
        have k5 : (J : Int) + 5 < (N : Int) := by omega
        have k6 : ¬ (N : Int) < 9 := by omega
        have k7 : 3 ≤ J := by omega
        have k8 : 0 < (T : Int) := by omega
        have k9 : (K : Int) ≤ 40000 := by omega
        have HU := Lib.hid (fun (hr : ∀ z ∈ bs, 0 ≤ z ∧ z ≤ 255) (y : Int) (hy : 0 ≤ y ∧ y ≤ 255) (hne : ¬ y = el bs K) => hurt hr K y (by omega) (by omega) hy hne)
        have HN := Lib.hid hNN
        have E1 := Lib.hid e1
        obtain ⟨hby0, hby1⟩ := hby
        obtain ⟨hat0, hat1⟩ := hat
        clear hq hv hvd hvs hd l0 l1 e1 hfr htl hpl hN hurt hdl hBS hJ hT hNN hq0 hq1 hq2 hK bf bst
        go_enter Try.func6, Try.ntmps6
        go_wp2_with fail
        refine (awake_calls _).mono ?_
        rintro e w1 ⟨rfl, b1⟩
        have H1 := Lib.hid (H0.out.below b1)
        obtain ⟨x0, x1, x2, xl⟩ := (X0.out.below b1 X0.out.lt).cells
        have X1 : Hid (SBox w1 w.heap.size s.f s.st A n c) := Lib.hid (X0.out.below b1 X0.out.lt)
        have B1 := Lib.hid (below_then B0.out b1 B0.out.size)
        clear b1
        have lg1 := LG.out _ H1.out
        have LG1 := Lib.hid lg1
        clear lg1
        go_wp2_with fail
        refine (LG1.out).mono ?_
        rintro e w2 ⟨rfl, b2⟩
        have b2' := ((Below.refl w1.heap.size w1).alloc (Nat.le_refl _) (serO s.f s.st A n c)).trans (b2.mono (by simp))
        have H2 := Lib.hid (H1.out.below b2')
        obtain ⟨y0, y1, y2, yl⟩ := (X1.out.below b2' X1.out.lt).cells
        have X2 : Hid (SBox w2 w.heap.size s.f s.st A n c) := Lib.hid (X1.out.below b2' X1.out.lt)
        have B2 := Lib.hid (below_then B1.out b2' B1.out.size)
        clear b2 b2'
        go_wp2_with fail
        refine (GV.out _ H2.out).mono ?_
        rintro e w3 ⟨rfl, b3⟩
        have H3 := Lib.hid (H2.out.below b3)
        obtain ⟨z0, z1, z2, zl⟩ := (X2.out.below b3 X2.out.lt).cells
        have B3 := Lib.hid (below_then B2.out b3 B2.out.size)
        clear b3
        have e3 := E1.out _ H3.out
        have E3 := Lib.hid e3
        clear e3
        go_wp2_with fail
        refine (E3.out).mono ?_
        rintro e w4 ⟨v4, rfl, o4, b4⟩
        obtain ⟨A4, n4, c4, rfl, y4, -⟩ := o4.ints
        have hn4 := y4.len
        rw [HN.out] at hn4
        subst hn4
        have hc4 := y4.cap
        have hx4 := y4.max
        have b4' := ((Below.refl w3.heap.size w3).alloc (Nat.le_refl _) (serO s.f s.st A n c)).trans (b4.mono (by simp))
        have B4 := Lib.hid (below_then B3.out b4' B3.out.size)
        have Y4 := Lib.hid y4
        clear b4 b4' o4 y4
        go_wp2
        have RB := Lib.hid Y4.out.rng
        go_loop [9] (fun i => ∃ k : Nat, 3 ≤ k ∧ k ≤ J ∧ i = .int .i64 k) (fun i => J - (intOf i).toNat)
        case atStart => exact ⟨3, Nat.le_refl _, k7, rfl⟩
        case round =>
          obtain ⟨k, hk3, hkJ, rfl⟩ := hrel
          have hkN : (k : Int) < (N : Int) := by omega
          obtain ⟨ad, rfl, -, hcc⟩ := Y4.out.at_ (show k < N by omega)
          by_cases hlt : k < J
          · have hge := HGE.out k hk3 hlt
            generalize el bs k = d at *
            go_wp2
            go_round
            case rel => exact ⟨k + 1, by omega, by omega, by go_num⟩
            case measure => simp [intOf]; try omega
          · obtain rfl : k = J := by omega
            have hll := HLT.out
            have CL := Lib.hid (clone_calls w4 Y4.out (by omega))
            generalize el bs k = d at *
            clear HGE HLT hlt hkJ
            go_wp2_with fail
            refine (CL.out).mono ?_
            rintro e w5 ⟨v5, rfl, o5, b5⟩
            obtain ⟨g5, c5, rfl, hg5, hc5, hx5, hl5, hr5, hf5⟩ := o5.asRow (by have := HN.out; omega)
            have hnn := HN.out
            rw [hnn] at hc5 hr5
            rw [hnn]
            clear hnn
            have q0 := hr5 K (by omega)
            have q1 := hf5 K
            obtain ⟨dk, hdk⟩ : ∃ d, el bs K = d := ⟨_, rfl⟩
            have hdr := el_rng RB.out K
            rw [hdk] at q0 hdr
            obtain ⟨y, hy⟩ : ∃ y, IntKind.u8.wrap (dk + by_) = y := ⟨_, rfl⟩
            have hyr : 0 ≤ y ∧ y ≤ 255 := by rw [← hy, IntKind.wrap_u8]; omega
            have hyn : ¬ y = dk := by rw [← hy, IntKind.wrap_u8]; omega
            have hdec := HU.out RB.out y hyr (by rw [hdk]; exact hyn)
            have s5 : Byts (w5.setCell ⟨g5, K, none⟩ (.int .u8 y)) (some ⟨g5, 0, none⟩) N c5 (bs.set K y) := by
              have h1 := Byts.store (zs := bs) hl5 (by rw [HN.out]; exact hc5) hx5 (by rw [HN.out]; omega) RB.out (by rw [HN.out]; exact hr5) (k := K) (by rw [HN.out]; omega) y hyr
              rw [HN.out] at h1
              exact h1
            have dc := Decode_calls _ s5 (fun ad e => by injection e with e; rw [← e]; simp [World.setCell]; exact hl5)
            rw [hdec] at dc
            have b5' : Below w4.heap.size w4 (w5.setCell ⟨g5, K, none⟩ (.int .u8 y)) := b5.setCell (p := ⟨g5, K, none⟩) hg5 _
            have B5 := Lib.hid (below_then B4.out b5' B4.out.size)
            have DC := Lib.hid dc
            clear b5 b5' dc s5 hdec hdr hdk o5 hr5 hf5 hyr hyn
            go_wp2_with fail
            refine (DC.out).mono ?_
            rintro e w6 ⟨A8, n8, c8, rfl, s6, b6⟩
            obtain rfl : n8 = 0 := by rw [← s6.len]; rfl
            have B6 := Lib.hid (below_then B5.out b6 B5.out.size)
            clear s6 b6
            go_wp2
            go_ret
            exact ⟨rfl, B6.out⟩
  · rw [hq] at lg
    have LG := Lib.hid lg
    clear lg gv hq
    go_enter Try.func6, Try.ntmps6
    go_wp2_with fail
    refine (awake_calls _).mono ?_
    rintro e w1 ⟨rfl, b1⟩
    have H1 := Lib.hid (H0.out.below b1)
    obtain ⟨x0, x1, x2, xl⟩ := (X0.out.below b1 X0.out.lt).cells
    have B1 := Lib.hid (below_then B0.out b1 B0.out.size)
    clear b1
    have lg1 := LG.out _ H1.out
    have LG1 := Lib.hid lg1
    clear lg1
    go_wp2_with fail
    refine (LG1.out).mono ?_
    rintro e w2 ⟨rfl, b2⟩
    have b2' := ((Below.refl w1.heap.size w1).alloc (Nat.le_refl _) (serO s.f s.st A n c)).trans (b2.mono (by simp))
    have B2 := Lib.hid (below_then B1.out b2' B1.out.size)
    clear b2 b2'
    go_wp2
    go_ret
    exact ⟨rfl, B2.out⟩
end Go.Proofs.Ytchnfahgmceohaa
