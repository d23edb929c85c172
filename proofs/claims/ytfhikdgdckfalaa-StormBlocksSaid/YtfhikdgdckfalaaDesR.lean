/- Descending of the reference: the list in descending order. -/
import Derived.Test.YtfhikdgdckfalaaOwnSet
import Derived.Test.YtfhikdgdckfalaaMB13
import Derived.Shelf.RegionOpenPlain
namespace Go.Proofs.Ytfhikdgdckfalaa
open Go.RowKit
set_option linter.unusedVariables false

theorem own_drew {w : World} {B : Nat} {v : Value} {zs : List Int} (h : Own w B v zs) : Own w.drew B v zs := ⟨h.row, h.rng, h.few⟩
theorem fl_set {n j : Nat} {K : Nat → Int} (hj : j < n) (x : Int) : (fl n K).set j x = fl n (upd K j x) := by
  apply ext_el (by rw [List.length_set, fl_length, fl_length])
  intro k hk
  rw [List.length_set, fl_length] at hk
  rw [el_set (by rw [fl_length]; exact hj), el_fl _ hk, el_fl _ hk]
  unfold upd; rfl

set_option maxRecDepth 100000 in
set_option maxHeartbeats 4000000 in
theorem Descending_calls {A : Option Addr} {n c : Nat} {l : List Int} (w : World) (h : Ints w A n c l) (hn : n ≤ 10000) :
    Calls Try.prog 53 #[.slice A n c] w fun e w' => ∃ S, DescOf n l S ∧ Ret1 (fl n S) w e w' := by
  have hcap := h.cap
  have hmax := h.max
  have H := Lib.hid h
  have HL := Lib.hid h.len
  have HR := Lib.hid h.rng
  have mixed : Try.prog.follows Departure.mixedOrders = true := by kernel_rfl
  clear h
  go_enter Try.func53, Try.ntmps53
  go_wp2
  go_loopw [3, 4] (fun v vi wr => ∃ (i : Nat) (K : Nat → Int), vi = .int .i64 i ∧ i ≤ n ∧ Own wr w.heap.size v (fl i K) ∧ DescOf i l K ∧ Below w.heap.size w wr) (fun _ vi _ => n - (intOf vi).toNat)
  case atStart => exact ⟨0, fun _ => 0, rfl, Nat.zero_le _, Own.nil _ _, ⟨Desc.one _ _ _ (by omega), fun _ => rfl, fun k hk => absurd hk (by omega)⟩, Below.refl _ _⟩
  case round =>
    obtain ⟨i, K, rfl, hi, ho, hd, hb⟩ := hrel
    generalize wr = wo at *
    have HO := Lib.hid ho
    have HD := Lib.hid hd
    have HB := Lib.hid hb
    obtain ⟨A5, n5, c5, e5, -, -⟩ := ho.ints
    subst e5
    have L4 : w.heap.size ≤ wo.heap.size := hb.size
    by_cases hlt : i < n
    · obtain ⟨ad, rfl, hla, hc⟩ := (H.out.below hb).at_ hlt
      have hx := HR.out _ (el_mem (show i < l.length by rw [HL.out]; exact hlt))
      have HF : Hid ((fl i K).length < 17592186044416) := Lib.hid (by rw [fl_length]; omega)
      obtain ⟨x, hxe⟩ : ∃ x, el l i = x := ⟨_, rfl⟩
      rw [hxe] at hc hx
      have HX := Lib.hid hxe
      clear ho hd hb hxe
      go_wp2_with (at_builtin; refine wpList_append_intG wo w.heap.size _ (fl i K) x rfl _ _ rfl rfl rfl HO.out L4 HF.out (by omega) ?_)
      intro v5 w5 ho5 hg5
      have hb5 := hg5.below HO.out L4
      obtain ⟨K1, hK1⟩ : ∃ K1, upd K i x = K1 := ⟨_, rfl⟩
      have e1 : fl i K ++ [x] = fl (i + 1) K1 := by
        rw [← hK1, fl_succ, upd_at]
        congr 1
        exact fl_congr fun k hk => (upd_ne K x (by omega)).symm
      rw [e1] at ho5
      obtain ⟨g, c6, e5, hg, hgl, hnc, hcm⟩ := ho5.shape (by rw [fl_length]; omega)
      rw [fl_length] at e5 hnc
      subst e5
      have DD : Hid (DescOf i l K ∧ K1 i = x ∧ ∀ k, k < i → K1 k = K k) := Lib.hid ⟨HD.out, by rw [← hK1, upd_at], fun k hk => by rw [← hK1]; exact upd_ne K x (by omega)⟩
      have IS := Lib.hid (Ins.start (a := 0) (HD.out.1.congr fun k _ hk => DD.out.2.2 k hk))
      have O5 := Lib.hid ho5
      have B5 := Lib.hid (HB.out.trans hb5)
      have q1 : IntKind.i64.wrap (((i + 1 : Nat) : Int) - 1) = (i : Int) := by rw [show ((i + 1 : Nat) : Int) - 1 = i by omega]; exact IntWalk.i64_in _ (by omega)
      have q2 : IntKind.i64.wrap ((i : Int) + 1 - 1) = (i : Int) := by rw [show (i : Int) + 1 - 1 = i by omega]; exact IntWalk.i64_in _ (by omega)
      clear ho5 hb5 hg5 e1 hK1 HO HB HD HF hla hc hgl L4
      go_wp2
      go_loopw [5] (fun vj wr => ∃ (j : Nat) (K2 : Nat → Int), vj = .int .i64 j ∧ j ≤ i ∧ Own wr w.heap.size (.slice (some ⟨g, 0, none⟩) (i + 1) c6) (fl (i + 1) K2) ∧ Mv 0 (i + 1) (i + 1) K1 K2 ∧ Ins 0 i j K2 ∧ Below w.heap.size w wr) (fun vj _ => (intOf vj).toNat)
      case atStart => exact ⟨i, K1, by go_num, Nat.le_refl _, O5.out, Mv.refl _ _ _ _, IS.out, B5.out⟩
      case round =>
        clear O5 IS B5
        obtain ⟨j, K2, rfl, ji, ho, hmv, hin, hb⟩ := hrel
        rename_i wy
        generalize wr = wq at *
        have HO := Lib.hid ho
        have HM := Lib.hid hmv
        have HI := Lib.hid hin
        have HB := Lib.hid hb
        clear ho hmv hin hb
        have FIN : Hid ((j = 0 ∨ (0 < j ∧ K2 j ≤ K2 (j - 1))) → DescOf (i + 1) l K2) := Lib.hid fun hx => by
          obtain ⟨d1, d2, d3⟩ := DD.out
          refine ⟨HI.out.done hx, fun z => ?_, fun k hk => ?_⟩
          · rw [HM.out.cnt, cN, cN, cN_congr d3, d1.2.1 z, d2, HX.out]
          · obtain ⟨t, -, ht, e⟩ := HM.out.sub k (by omega) hk
            by_cases hti : t = i
            · exact ⟨i, by omega, by rw [e, hti, d2, HX.out]⟩
            · obtain ⟨q, hq, eq⟩ := d1.2.2 t (by omega)
              exact ⟨q, by omega, by rw [e, d3 t (by omega), eq]⟩
        by_cases hj : 0 < j
        · obtain ⟨p, hp⟩ : ∃ p, p + 1 = j := ⟨j - 1, by omega⟩
          subst hp
          have P1 := HO.out.at_ (j := p + 1) (by rw [fl_length]; omega)
          have P0 := HO.out.at_ (j := p) (by rw [fl_length]; omega)
          rw [el_fl _ (by omega)] at P1 P0
          obtain ⟨u1, f1⟩ := P1
          obtain ⟨u0, f0⟩ := P0
          have RN := Lib.hid (fun k (hk : k < i + 1) => HO.out.rng (K2 k) (by have := el_mem (zs := fl (i + 1) K2) (k := k) (by rw [fl_length]; exact hk); rw [el_fl _ hk] at this; exact this))
          have r1 := RN.out (p + 1) (by omega)
          have r0 := RN.out p (by omega)
          have SW := Lib.hid (fun W (h : Own W w.heap.size (.slice (some ⟨g, 0, none⟩) (i + 1) c6) (fl (i + 1) K2)) => by
            have h1 := h.set (j := p + 1) (by omega) r0
            rw [fl_set (by omega)] at h1
            have h2 := h1.set (j := p) (by omega) r1
            rw [fl_set (by omega)] at h2
            exact (show Own _ w.heap.size (.slice (some ⟨g, 0, none⟩) (i + 1) c6) (fl (i + 1) (swp K2 (p + 1) p)) from h2))
          have ST := Lib.hid (fun (hl : K2 p < K2 (p + 1)) => HI.out.step (Nat.zero_le p) ji hl)
          have SM := Lib.hid (HM.out.trans (Mv.swp K2 (i := p + 1) (j := p) (Nat.zero_le _) (by omega) (Nat.zero_le _) (by omega) (Nat.le_refl _)))
          have DN := Lib.hid (fun (hl : K2 (p + 1) ≤ K2 p) => FIN.out (.inr ⟨by omega, hl⟩))
          clear FIN HI HM RN
          have NB := Lib.hid (fun W (hb : Below w.heap.size w W) (u v : Value) => (hb.setCell (p := ⟨g, p + 1, none⟩) hg u).setCell (p := ⟨g, p, none⟩) hg v)
          generalize swp K2 (p + 1) p = K3 at *
          have HK := Lib.hid (fun (k : Nat) (h : K2 = K2) => h)
          generalize K2 (p + 1) = x1 at *
          generalize K2 p = y1 at *
          have eq1 : IntKind.i64.wrap (((p + 1 : Nat) : Int) - 1) = (p : Int) := by rw [show ((p + 1 : Nat) : Int) - 1 = p by omega]; exact IntWalk.i64_in _ (by omega)
          have eq2 : IntKind.i64.wrap ((p : Int) + 1 - 1) = (p : Int) := by rw [show (p : Int) + 1 - 1 = p by omega]; exact IntWalk.i64_in _ (by omega)
          have g1 : decide ((0 : Int) < (p : Int) + 1) = true := decide_eq_true (by omega)
          have b1 : (p : Int) + 1 < (i : Int) + 1 := by omega
          have b2 : (p : Int) < (i : Int) + 1 := by omega
          have b3 : (0 : Int) ≤ (p : Int) := by omega
          by_cases hl : y1 < x1
          · have g2 : decide (y1 < x1) = true := decide_eq_true hl
            have ST1 := Lib.hid (ST.out hl)
            clear ST DN
            go_wp2_with fail
            go_quiet (fail)
            have HO2 := Lib.hid (SW.out _ (HO.out.drewN nq))
            have HB2 := Lib.hid (NB.out _ (below_dn HB.out nq) (.int .i64 y1) (.int .i64 x1))
            have v1 : (wq.drewN nq).cell? ⟨g, p + 1, none⟩ = some (.int .i64 x1) := u1
            have v0 : (wq.drewN nq).cell? ⟨g, p, none⟩ = some (.int .i64 y1) := u0
            have w1 : (wq.drewN nq).frozen? ⟨g, p + 1, none⟩ = false := f1
            have w0 : (wq.drewN nq).frozen? ⟨g, p, none⟩ = false := f0
            clear HO HB u1 u0 f1 f0 SW NB
            generalize wq.drewN nq = w2 at *
            go_wp2_with fail
            go_big_region_o
            have HO3 := Lib.hid (own_drew HO2.out)
            have HB3 := Lib.hid (below_d1 HB2.out)
            clear v1 v0 w1 w0 HO2 HB2
            generalize ((w2.setCell ⟨g, p + 1, none⟩ (.int .i64 y1)).setCell ⟨g, p, none⟩ (.int .i64 x1)).drew = w3 at *
            go_wp2
            go_roundw
            case rel => exact ⟨p, K3, by go_num, by omega, HO3.out, SM.out, ST1.out, HB3.out⟩
            case measure => simp [intOf]; try omega
          · have g2 : decide (y1 < x1) = false := decide_eq_false hl
            have DN1 := Lib.hid (DN.out (by omega))
            clear ST DN SM SW NB
            go_wp2_with fail
            go_quiet (fail)
            have HO2 := Lib.hid (HO.out.drewN nq)
            have HB2 := Lib.hid (below_dn HB.out nq)
            clear HO HB u1 u0 f1 f0
            generalize wq.drewN nq = w2 at *
            go_wp2
            go_roundw
            case rel => exact ⟨i + 1, K2, by go_num, by omega, HO2.out, DN1.out, HB2.out⟩
            case measure => simp [intOf]; try omega
        · obtain rfl : j = 0 := by omega
          have DN1 := Lib.hid (FIN.out (.inl rfl))
          clear FIN HI HM hj
          go_wp2_with fail
          go_quiet (fail)
          have HO2 := Lib.hid (HO.out.drewN nq)
          have HB2 := Lib.hid (below_dn HB.out nq)
          clear HO HB
          generalize wq.drewN nq = w2 at *
          go_wp2
          go_roundw
          case rel => exact ⟨i + 1, K2, by go_num, by omega, HO2.out, DN1.out, HB2.out⟩
          case measure => simp [intOf]; try omega
    · obtain rfl : i = n := by omega
      clear ho hd hb
      obtain ⟨A6, n6, c6, e6, i6, g6⟩ := HO.out.ints
      injection e6 with e6 e7 e8
      subst e6 e7 e8
      have I6 := Lib.hid i6
      have G6 := Lib.hid g6
      clear i6 g6
      go_wp2
      go_ret
      exact ⟨K, HD.out, _, _, _, rfl, I6.out, HB.out, G6.out⟩
end Go.Proofs.Ytfhikdgdckfalaa
