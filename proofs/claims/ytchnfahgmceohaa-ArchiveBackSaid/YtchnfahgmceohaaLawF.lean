/- The law ArchiveBack returns true. -/
import Derived.Test.YtchnfahgmceohaaAwake
import Derived.Test.YtchnfahgmceohaaNotV
import Derived.Test.YtchnfahgmceohaaCutLaw
import Derived.Test.YtchnfahgmceohaaSameAll
import Derived.Test.YtchnfahgmceohaaReadC
namespace Go.Proofs.Ytchnfahgmceohaa
open Go.RowKit
set_option linter.unusedVariables false

theorem SBox.cells {w : World} {p : Nat} {f st : Int} {A : Option Addr} {n c : Nat} (h : SBox w p f st A n c) : w.cell? ⟨p, 0, none⟩ = some (.int .i64 f) ∧ w.cell? ⟨p, 1, none⟩ = some (.int .i64 st) ∧ w.cell? ⟨p, 2, none⟩ = some (.slice A n c) ∧ p < w.heap.size := ⟨h.c0, h.c1, h.c2, h.lt⟩
theorem encTo_eq (ss : List SerD) (k : Nat) : encTo ss k = encL (ss.take k) := rfl
theorem winV_ok {s : SerD} (h : validD s = true) {x y : Nat} (hx : x ≤ y) (hy : y ≤ s.ds.length) : winV s.f s.st s.ds x y = (⟨s.f + s.st * x, s.st, (s.ds.drop x).take (y - x)⟩, 0) := by
  have hv : validS s.f s.st s.ds = true := h
  unfold winV
  rw [if_neg (by rw [hv]; simp), if_neg (by omega)]
  congr 3
  omega
theorem app_step {ss : List SerD} (hv : ∀ s ∈ ss, validD s = true) (hd : ∀ s ∈ ss, s.ds.length ≤ 200) (hm : ss.length ≤ 8) {j : Nat} (hj : j < ss.length) : appV (encTo ss j) (sl ss j) = (encTo ss (j + 1), 0) := by
  have h1 := encTo_len hd j (by omega)
  have h2 := encTo_len hd (j + 1) (by omega)
  have e := encTo_succ hj
  have hde : decL (encTo ss j) = (ss.take j, 0) := by
    rw [encTo_eq]
    exact dec_enc _ (fun s hs => hv s (List.mem_of_mem_take hs)) (by rw [List.length_take]; omega) (by rw [← encTo_eq]; omega)
  have hvj : validS (sl ss j).f (sl ss j).st (sl ss j).ds = true := hv _ (sl_mem hj)
  have hl : (encTo ss j).length + (recD (sl ss j)).length ≤ 1048576 := by
    have := congrArg List.length e
    rw [List.length_append] at this
    omega
  unfold appV
  rw [hde, if_neg (by simp), if_neg (by rw [hvj]; simp), if_neg (by simp only [List.length_take]; omega), e]

set_option maxRecDepth 100000 in
set_option maxHeartbeats 4000000 in
theorem Back_calls {A : Option Addr} {n c : Nat} {ss : List SerD} (K F T : Int) (w : World) (h : Sers w A n c ss) (hK : 0 ≤ K ∧ K ≤ 255) (hF : 0 ≤ F ∧ F ≤ 255) (hT : 0 ≤ T ∧ T ≤ 255) :
    Calls Try.prog 8 #[.slice A n c, .int .u8 K, .int .u8 F, .int .u8 T] w fun e w' => e = .returned (.bool true) ∧ Below w.heap.size w w' := by
  have lg := fun W (I : Sers W A n c ss) => large_calls W I
  have cf := fun W (I : Sers W A n c ss) => containsFunc_sers 32 notD W I (.inr (.inr rfl)) (fun s A n c W I => back1_calls s W I)
  have hcap := h.cap
  have hmax := h.max
  have hlen := h.len
  have H := Lib.hid h
  by_cases h4 : 8 < (n : Int)
  · clear h lg cf hlen
    go_enter Try.func8, Try.ntmps8
    go_wp2_with fail
    refine (awake_calls _).mono ?_
    rintro e w1 ⟨rfl, b1⟩
    have B1 := Lib.hid b1
    clear b1
    go_wp2
    go_ret
    exact ⟨rfl, B1.out⟩
  · cases hq : largeB ss
    · cases hn : ss.any notD
      · have hv := any_bad hn
        have hd := few_small hq (by omega) hv
        have hfr := few_of hq
        obtain ⟨l0, l1⟩ := enc_len8 hd (by omega)
        have e1 := fun W (I : Sers W A n c ss) => Encode_calls W I hfr
        rw [EncV_of hv (by omega)] at e1
        have e0 := fun W => Encode_calls W (Sers.nil W) (show FewR [] from ⟨.inl (by simp), by simp⟩)
        rw [EncV_of (ss := []) (by simp) (by simp)] at e0
        have hde : decL (encL ss) = (ss, 0) := dec_enc ss hv (by omega) (by omega)
        have de := fun W A n c (I : Byts W A n c (encL ss)) => Decode_calls W I
        have ch := fun W A n c (I : Byts W A n c (encL ss)) => Check_calls W I
        have ap := fun j (hj : j < n) W A n c A1 n1 c1 (I : Byts W A n c (encTo ss j)) (hA) (I1 : Ints W A1 n1 c1 (sl ss j).ds) => Append_calls (sl ss j) W I hA I1
        have ap2 : ∀ j, j < n → appV (encTo ss j) (sl ss j) = (encTo ss (j + 1), 0) := fun j hj => app_step hv hd (by omega) (by omega)
        have tl := fun j (hj : j ≤ n) => encTo_len hd j (by omega)
        have t3 : ∀ j, 3 ≤ (encTo ss j).length := fun j => by unfold encTo; rw [List.length_append]; simp
        rw [hde] at de ch
        rw [hn] at cf
        rw [hq] at lg
        have LG := Lib.hid lg
        have CF := Lib.hid cf
        have E1 := Lib.hid e1
        have E0 := Lib.hid e0
        have DE := Lib.hid de
        have CH := Lib.hid ch
        have AP := Lib.hid ap
        have AP2 := Lib.hid ap2
        have TL := Lib.hid tl
        have T3 := Lib.hid t3
        have HV := Lib.hid hv
        have HDE := Lib.hid hde
        have HD := Lib.hid hd
        have HL := Lib.hid hlen
        obtain ⟨hK0, hK1⟩ := hK
        obtain ⟨hF0, hF1⟩ := hF
        obtain ⟨hT0, hT1⟩ := hT
        clear h lg cf hlen hq hn e1 e0 de ch ap ap2 tl t3 hv hd hfr hde l0 l1
        go_enter Try.func8, Try.ntmps8
        go_wp2_with fail
        refine (awake_calls _).mono ?_
        rintro e w1 ⟨rfl, b1⟩
        have I1 := Lib.hid (H.out.below b1)
        have B1 := Lib.hid b1
        clear b1
        go_wp2_with fail
        refine (LG.out _ I1.out).mono ?_
        rintro e w2 ⟨rfl, b2⟩
        have I2 := Lib.hid (I1.out.below b2)
        have B2 := Lib.hid (below_then B1.out b2 B1.out.size)
        clear b2
        go_wp2_with fail
        refine (CF.out _ I2.out).mono ?_
        rintro e w3 ⟨rfl, b3⟩
        have I3 := Lib.hid (I2.out.below b3)
        have B3 := Lib.hid (below_then B2.out b3 B2.out.size)
        clear b3
        go_wp2_with fail
        refine (E1.out _ I3.out).mono ?_
        rintro e w4 ⟨v4, rfl, o4, b4⟩
        obtain ⟨A4, n4, c4, rfl, y4, -⟩ := o4.ints
        have hA4 : Hid (∀ W, Below w4.heap.size w4 W → ∀ ad, A4 = some ad → ad.block < W.heap.size) := Lib.hid fun W b ad e => by
          obtain ⟨ad', e', hl, -⟩ := y4.at_ (show 0 < n4 by have := T3.out n; have := y4.len; rw [← HL.out, encTo_all] at *; omega)
          rw [e] at e'
          injection e' with e'
          rw [e']
          exact Nat.lt_of_lt_of_le hl b.size
        have hc4 := y4.cap
        have hx4 := y4.max
        have I4 := Lib.hid (I3.out.below b4)
        have B4 := Lib.hid (below_then B3.out b4 B3.out.size)
        have Y4 := Lib.hid y4
        clear b4 o4 y4
        have d4 := Lib.hid (DE.out w4 A4 n4 c4 Y4.out (hA4.out w4 (Below.refl _ _)))
        go_wp2_with fail
        refine (d4.out).mono ?_
        rintro e w5 ⟨A5, n5, c5, rfl, s5, b5⟩
        have I5 := Lib.hid (I4.out.below b5)
        have Y5 := Lib.hid (Y4.out.below b5)
        have K5 := Lib.hid b5
        have S5 := Lib.hid s5
        have B5 := Lib.hid (below_then B4.out b5 B4.out.size)
        clear b5 s5
        have c5' := Lib.hid (CH.out w5 A4 n4 c4 Y5.out (hA4.out w5 K5.out))
        go_wp2_with fail
        refine (c5'.out).mono ?_
        rintro e w6 ⟨rfl, b6⟩
        have I6 := Lib.hid (I5.out.below b6)
        have Y6 := Lib.hid (Y5.out.below b6)
        have K6 := Lib.hid (below_then K5.out b6 K5.out.size)
        have S6 := Lib.hid (S5.out.below b6)
        have B6 := Lib.hid (below_then B5.out b6 B5.out.size)
        clear b6
        have sa := SameAll_ref w6 S6.out I6.out
        have SA := Lib.hid sa
        clear sa
        have hn5 : ((ss.length : Int) != (n : Int)) = false := by rw [HL.out]; simp
        go_wp2_with fail
        refine (SA.out).mono ?_
        rintro e w7 ⟨rfl, b7⟩
        have I7 := Lib.hid (I6.out.below b7)
        have Y7 := Lib.hid (Y6.out.below b7)
        have K7 := Lib.hid (below_then K6.out b7 K6.out.size)
        have B7 := Lib.hid (below_then B6.out b7 B6.out.size)
        clear b7
        have e7 := Lib.hid (E0.out w7)
        go_wp2_with fail
        refine (e7.out).mono ?_
        rintro e w8 ⟨v8, rfl, o8, b8⟩
        obtain ⟨A8, n8, c8, rfl, y8, -⟩ := o8.ints
        have I8 := Lib.hid (I7.out.below b8)
        have Y8 := Lib.hid (Y7.out.below b8)
        have K8 := Lib.hid (below_then K7.out b8 K7.out.size)
        have B8 := Lib.hid (below_then B7.out b8 B7.out.size)
        have O8 := Lib.hid y8
        clear b8 o8 y8 CH SA DE E1 E0 LG CF S5 S6 d4 c5' e7
        go_wp2
        go_loopw [15, 16, 82] (fun va vh i wr => ∃ j : Nat, j ≤ n ∧ i = .int .i64 j ∧ vh = .int .i64 0 ∧ (∃ A' n' c', va = .slice A' n' c' ∧ Byts wr A' n' c' (encTo ss j)) ∧ Below w8.heap.size w8 wr) (fun _ _ i _ => n - (intOf i).toNat)
        case atStart => exact ⟨0, Nat.zero_le _, rfl, rfl, ⟨_, _, _, rfl, O8.out⟩, Below.refl _ _⟩
        case round =>
          obtain ⟨j, hj, rfl, rfl, ⟨A', n', c', rfl, hy⟩, hbe⟩ := hrel
          generalize wr = wo at *
          have INW := Lib.hid (I8.out.below hbe)
          have YO := Lib.hid (Y8.out.below hbe)
          have BO := Lib.hid hbe
          have BW := Lib.hid (below_then B8.out hbe B8.out.size)
          have AO := Lib.hid hy
          clear hbe hy
          by_cases hlt : j < n
          · obtain ⟨ad, rfl, hl, ⟨A9, n9, c9, q0, q1, q2, qi⟩⟩ := INW.out.at_ hlt
            have hba : Below wo.heap.size wo (wo.alloc (serO (sl ss j).f (sl ss j).st A9 n9 c9)) := (Below.refl _ _).alloc (Nat.le_refl _) _
            have ha' : ∀ ad', A' = some ad' → ad'.block < (wo.alloc (serO (sl ss j).f (sl ss j).st A9 n9 c9)).heap.size := fun ad' e => by
              obtain ⟨a2, e', hl, -⟩ := AO.out.at_ (show 0 < n' by have := T3.out j; have := AO.out.len; omega)
              rw [e] at e'
              injection e' with e'
              rw [e']; simp; omega
            have ap := AP.out j hlt _ A' n' c' A9 n9 c9 (AO.out.below hba) ha' (qi.below hba)
            rw [AP2.out j hlt] at ap
            have APJ := Lib.hid ap
            have BA := Lib.hid (below_then BO.out hba BO.out.size)
            have BWA := Lib.hid (below_then BW.out hba BW.out.size)
            clear ap hba ha' qi
            generalize (sl ss j).f = sf at *
            generalize (sl ss j).st = sst at *
            go_wp2_with fail
            refine (APJ.out).mono ?_
            rintro e w9 ⟨v9, rfl, o9, b9⟩
            obtain ⟨A10, n10, c10, rfl, y9, -⟩ := o9.ints
            have R9 := Lib.hid y9
            have B9 := Lib.hid (below_then BA.out b9 BA.out.size)
            clear o9 y9 b9
            go_wp2
            go_roundw
            case rel => exact ⟨j + 1, by omega, by go_num, rfl, ⟨_, _, _, rfl, R9.out⟩, B9.out⟩
            case measure => simp [intOf]; try omega
          · obtain rfl : j = n := by omega
            have hee : encTo ss j = encL ss := by rw [← HL.out, encTo_all]
            have eq := equalB_calls wo AO.out YO.out
            rw [hee, decide_eq_true rfl] at eq
            have EQ := Lib.hid eq
            clear eq hee hlt hj
            go_wp2_with fail
            refine (EQ.out).mono ?_
            rintro e w10 ⟨rfl, rfl⟩
            by_cases hn0 : j = 0
            · have hn1 : ((j : Int) == 0) = true := by simp [hn0]
              clear hn0
              go_wp2
              go_ret
              exact ⟨rfl, BW.out⟩
            · have hn1 : ((j : Int) == 0) = false := by simp [hn0]
              have r0 := Int.emod_nonneg K (show (j : Int) ≠ 0 by omega)
              have r1 := Int.emod_lt_of_pos K (show 0 < (j : Int) by omega)
              obtain ⟨i, hi⟩ := Int.eq_ofNat_of_zero_le r0
              have hij : i < j := by omega
              obtain ⟨m, hm⟩ : ∃ m, (sl ss i).ds.length = m := ⟨_, rfl⟩
              have hm2 : m ≤ 200 := by rw [← hm]; exact HD.out _ (sl_mem (by rw [HL.out]; exact hij))
              have r2 := Int.emod_nonneg F (show ((m : Int) + 1) ≠ 0 by omega)
              have r3 := Int.emod_lt_of_pos F (show 0 < ((m : Int) + 1) by omega)
              obtain ⟨x, hx⟩ := Int.eq_ofNat_of_zero_le r2
              have hxm : x ≤ m := by omega
              have r4 := Int.emod_nonneg T (show ((m : Int) - (x : Int) + 1) ≠ 0 by omega)
              have r5 := Int.emod_lt_of_pos T (show 0 < ((m : Int) - (x : Int) + 1) by omega)
              obtain ⟨q, hq⟩ := Int.eq_ofNat_of_zero_le r4
              obtain ⟨y, hy⟩ : ∃ y, x + q = y := ⟨_, rfl⟩
              have hxy : x ≤ y := by omega
              have hym : y ≤ m := by omega
              have u1 : K % (j : Int) = (i : Int) := hi
              have u2 : F % ((m : Int) + 1) = (x : Int) := hx
              have u3 : T % ((m : Int) - (x : Int) + 1) = (q : Int) := hq
              have u4 : (x : Int) + (q : Int) = (y : Int) := by omega
              have u5 : (x : Int) ≤ (m : Int) := by omega
              have u6 : (m : Int) ≤ 200 := by omega
              have u7 : (i : Int) < (j : Int) := by omega
              have u8 : 0 < (j : Int) := by omega
              have u9 : (q : Int) ≤ 200 := by omega
              obtain ⟨ad, rfl, hl, ⟨A9, n9, c9, q0, q1, q2, qi⟩⟩ := INW.out.at_ hij
              obtain rfl : n9 = m := by rw [← qi.len, hm]
              have wv : winV (sl ss i).f (sl ss i).st (sl ss i).ds x y = _ := winV_ok (HV.out _ (sl_mem (by rw [HL.out]; exact hij))) hxy (by rw [hm]; exact hym)
              have rv : readV (encL ss) (i : Int) (x : Int) (y : Int) = winV (sl ss i).f (sl ss i).st (sl ss i).ds x y := by
                unfold readV
                rw [HDE.out, if_neg (by simp), if_neg (by rw [HL.out]; omega), Int.toNat_natCast]
              have rd := Read_calls (i : Int) (x : Int) (y : Int) wo YO.out (hA4.out wo (below_then K8.out BO.out K8.out.size)) ⟨by omega, by omega⟩ ⟨by omega, by omega⟩ ⟨by omega, by omega⟩
              rw [rv, wv] at rd
              have wd := fun W (I : Ints W A9 n9 c9 (sl ss i).ds) => Window_calls (sl ss i).f (sl ss i).st (x : Int) (y : Int) W I ⟨by omega, by omega⟩ ⟨by omega, by omega⟩
              rw [wv] at wd
              have RD := Lib.hid rd
              have WD := Lib.hid wd
              have QI := Lib.hid qi
              have sm := fun W A n c A' n' c' (I : Ints W A n c (((sl ss i).ds.drop x).take (y - x))) (I' : Ints W A' n' c' (((sl ss i).ds.drop x).take (y - x))) => Same_ser ((sl ss i).f + (sl ss i).st * x) (sl ss i).st W I I'
              have SM := Lib.hid sm
              generalize ((sl ss i).ds.drop x).take (y - x) = L at *
              generalize (sl ss i).f + (sl ss i).st * (x : Int) = ff at *
              generalize (sl ss i).f = sf at *
              generalize (sl ss i).st = sst at *
              clear hn0 r0 r1 r2 r3 r4 r5 hi hx hq hy hm wv rv rd wd qi sm hxm
              go_wp2_with fail
              refine (RD.out).mono ?_
              rintro e w11 ⟨A11, n11, c11, rfl, i11, b11, g11⟩
              have X11 := SBox.made w11 ff sst A11 n11 c11
              have ba11 : Below w11.heap.size w11 (w11.alloc (serO ff sst A11 n11 c11)) := (Below.refl _ _).alloc (Nat.le_refl _) _
              have bb := below_then b11 ba11 b11.size
              have p0 := (bb.cell (p := ad.add (i * 3)) (by rw [block_of_add]; exact hl)).trans q0
              have p1 := (bb.cell (p := ⟨(ad.add (i * 3)).block, (ad.add (i * 3)).off + 1, none⟩) (by show (ad.add (i * 3)).block < wo.heap.size; rw [block_of_add]; exact hl)).trans q1
              have p2 := (bb.cell (p := ⟨(ad.add (i * 3)).block, (ad.add (i * 3)).off + 2, none⟩) (by show (ad.add (i * 3)).block < wo.heap.size; rw [block_of_add]; exact hl)).trans q2
              have wd := WD.out _ (QI.out.below bb)
              have WDD := Lib.hid wd
              have X1 := Lib.hid X11
              have BW12 := Lib.hid (below_then BW.out bb BW.out.size)
              have I12 := Lib.hid (i11.below ba11)
              clear X11 ba11 bb b11 g11 wd i11 q0 q1 q2
              go_wp2_with fail
              refine (WDD.out).mono ?_
              rintro e w13 ⟨A13, n13, c13, rfl, i13, b13, g13⟩
              have ba13 : Below w13.heap.size w13 (w13.alloc (serO ff sst A13 n13 c13)) := (Below.refl _ _).alloc (Nat.le_refl _) _
              have bb := below_then b13 ba13 b13.size
              have SMM := Lib.hid (SM.out _ A11 n11 c11 A13 n13 c13 (I12.out.below bb) (i13.below ba13))
              obtain ⟨z0, z1, z2, zl⟩ := (X1.out.below bb X1.out.lt).cells
              obtain ⟨y0, y1, y2, yl⟩ := (SBox.made w13 ff sst A13 n13 c13).cells
              have BW14 := Lib.hid (below_then BW12.out bb BW12.out.size)
              clear ba13 bb b13 g13 i13
              go_wp2_with fail
              refine (SMM.out).mono ?_
              rintro e w15 ⟨rfl, b15⟩
              have BW15 := Lib.hid (below_then BW14.out b15 BW14.out.size)
              clear b15
              go_wp2
              go_ret
              exact ⟨rfl, BW15.out⟩
      · rw [hn] at cf
        rw [hq] at lg
        have LG := Lib.hid lg
        have CF := Lib.hid cf
        clear h lg cf hlen hq hn
        go_enter Try.func8, Try.ntmps8
        go_wp2_with fail
        refine (awake_calls _).mono ?_
        rintro e w1 ⟨rfl, b1⟩
        have I1 := Lib.hid (H.out.below b1)
        have B1 := Lib.hid b1
        clear b1
        go_wp2_with fail
        refine (LG.out _ I1.out).mono ?_
        rintro e w2 ⟨rfl, b2⟩
        have I2 := Lib.hid (I1.out.below b2)
        have B2 := Lib.hid (below_then B1.out b2 B1.out.size)
        clear b2
        go_wp2_with fail
        refine (CF.out _ I2.out).mono ?_
        rintro e w3 ⟨rfl, b3⟩
        have B3 := Lib.hid (below_then B2.out b3 B2.out.size)
        clear b3
        go_wp2
        go_ret
        exact ⟨rfl, B3.out⟩
    · rw [hq] at lg
      have LG := Lib.hid lg
      clear h lg cf hlen hq
      go_enter Try.func8, Try.ntmps8
      go_wp2_with fail
      refine (awake_calls _).mono ?_
      rintro e w1 ⟨rfl, b1⟩
      have I1 := Lib.hid (H.out.below b1)
      have B1 := Lib.hid b1
      clear b1
      go_wp2_with fail
      refine (LG.out _ I1.out).mono ?_
      rintro e w2 ⟨rfl, b2⟩
      have B2 := Lib.hid (below_then B1.out b2 B1.out.size)
      clear b2
      go_wp2
      go_ret
      exact ⟨rfl, B2.out⟩
end Go.Proofs.Ytchnfahgmceohaa
