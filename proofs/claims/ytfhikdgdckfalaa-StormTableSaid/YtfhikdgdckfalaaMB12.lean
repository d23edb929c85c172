/- rotateCmpFunc: two neighbouring ranges change places. -/
import Derived.Test.YtfhikdgdckfalaaMB10
import Derived.Test.YtfhikdgdckfalaaMB11
import Derived.Deep.DeepCutAuto

namespace Go.Proofs.Ytfhikdgdckfalaa
open Go.RowKit
set_option linter.unusedVariables false

set_option maxRecDepth 100000 in
set_option maxHeartbeats 4000000 in
theorem rotate_calls {g n c : Nat} {F : Nat → Int} (a m b : Nat) (w : World) (h : SRow w g n c F) (h1 : a < m) (h2 : m < b) (h3 : b ≤ n) :
    Calls Try.prog 103 #[.slice (some ⟨g, 0, none⟩) n c, .int .i64 a, .int .i64 m, .int .i64 b, cmpP] w (Turned g n c (rotF F a m b) w) := by
  have hc := h.hc
  have hm := h.hm
  have hf := h.hf
  have H := Lib.hid h
  clear h
  obtain ⟨i0, hi0⟩ : ∃ i0 : Nat, m - a = i0 := ⟨_, rfl⟩
  obtain ⟨j0, hj0⟩ : ∃ j0 : Nat, b - m = j0 := ⟨_, rfl⟩
  have ei : (m : Int) - (a : Int) = (i0 : Int) := by omega
  have ej : (b : Int) - (m : Int) = (j0 : Int) := by omega
  go_enter Try.func103, Try.ntmps103
  go_wp2
  go_loopw [10, 11] (fun vi vj wr => ∃ (i j : Nat) (K : Nat → Int), vi = .int .i64 i ∧ vj = .int .i64 j ∧ 0 < i ∧ 0 < j ∧ i ≤ m ∧ m + j ≤ n ∧ SRow wr g n c K ∧ Hid (rotF K (m - i) m (m + j) = rotF F a m b) ∧ Below g w wr) (fun vi vj _ => (intOf vi).toNat + (intOf vj).toNat)
  case atStart => exact ⟨i0, j0, F, rfl, rfl, by omega, by omega, by omega, by omega, H.out, by show _ = _; rw [← hi0, ← hj0]; congr 1 <;> omega, Below.refl _ _⟩
  case round =>
    obtain ⟨i, j, K, rfl, rfl, i1, j1, im, jn, hr, hrot, hb⟩ := hrel
    generalize wr = wo at *
    have HR := Lib.hid hr
    have HB := Lib.hid hb
    clear hr hb ei ej hi0 hj0
    obtain ⟨p, hp⟩ : ∃ p, p + i = m := ⟨m - i, by omega⟩
    have ep : (m : Int) - (i : Int) = (p : Int) := by omega
    by_cases hij : i = j
    · subst hij
      have SW := Lib.hid (swapRange_calls p m i wo HR.out (by omega) (by omega) (by omega))
      have HS : Hid (srF K p m i = rotF F a m b) := Lib.hid (by rw [← hrot.out, ← rot_same im, show m - i = p by omega])
      rw [HS.out] at SW
      clear HS hrot
      generalize rotF F a m b = G at *
      go_wp2_with fail
      go_wp2_with fail
      refine (SW.out).mono ?_
      rintro e w1 ⟨rfl, r1, b1⟩
      have R1 := Lib.hid r1
      have B1 := Lib.hid (HB.out.trans b1)
      clear r1 b1
      go_wp2
      go_end0
      exact ⟨rfl, R1.out, B1.out⟩
    · by_cases hgt : j < i
      · have SW := Lib.hid (swapRange_calls p m j wo HR.out (by omega) (by omega) (by omega))
        have HS : Hid (rotF (srF K p m j) (m - (i - j)) m (m + j) = rotF F a m b) := Lib.hid (by rw [← hrot.out, ← rot_left hgt im, show m - i = p by omega])
        generalize srF K p m j = K1 at *
        obtain ⟨q, hq⟩ : ∃ q, i - j = q := ⟨_, rfl⟩
        have eq : (i : Int) - (j : Int) = (q : Int) := by omega
        rw [hq] at HS
        have hne : ¬ (i : Int) = (j : Int) := by omega
        have hgz : (j : Int) < (i : Int) := by omega
        clear hrot hij hgt
        go_wp2_with fail
        refine (SW.out).mono ?_
        rintro e w1 ⟨rfl, r1, b1⟩
        have R1 := Lib.hid r1
        have B1 := Lib.hid (HB.out.trans b1)
        clear r1 b1
        go_wp2
        go_roundw
        case rel => exact ⟨q, j, K1, rfl, rfl, by omega, by omega, by omega, by omega, R1.out, HS, B1.out⟩
        case measure => simp [intOf]; try omega
      · obtain ⟨r, hr⟩ : ∃ r, m + j - i = r := ⟨_, rfl⟩
        have SW := Lib.hid (swapRange_calls p r i wo HR.out (by omega) (by omega) (by omega))
        have HS : Hid (rotF (srF K p r i) (m - i) m (m + (j - i)) = rotF F a m b) := Lib.hid (by rw [← hrot.out, ← rot_right (show i < j by omega) im, show m - i = p by omega, hr])
        generalize srF K p r i = K1 at *
        obtain ⟨q, hq⟩ : ∃ q, j - i = q := ⟨_, rfl⟩
        have eq : (j : Int) - (i : Int) = (q : Int) := by omega
        have er : (m : Int) + (j : Int) - (i : Int) = (r : Int) := by omega
        rw [hq] at HS
        have hne : ¬ (i : Int) = (j : Int) := by omega
        have hgz : ¬ (j : Int) < (i : Int) := by omega
        clear hrot hij hgt
        go_wp2_with fail
        refine (SW.out).mono ?_
        rintro e w1 ⟨rfl, r1, b1⟩
        have R1 := Lib.hid r1
        have B1 := Lib.hid (HB.out.trans b1)
        clear r1 b1
        go_wp2
        go_roundw
        case rel => exact ⟨i, q, K1, rfl, rfl, by omega, by omega, by omega, by omega, R1.out, HS, B1.out⟩
        case measure => simp [intOf]; try omega
end Go.Proofs.Ytfhikdgdckfalaa

/- symMergeCmpFunc: two neighbouring runs that descend become one. -/
namespace Go.Proofs.Ytfhikdgdckfalaa
open Go.RowKit
set_option linter.unusedVariables false

theorem sorted_of {a b g n c : Nat} {F G : Nat → Int} {w w1 w' : World} {e : Ending} (h : Sorted a b g n c G w1 e w') (m : Mv a b n F G) (hb : Below g w w1) : Sorted a b g n c F w e w' := by
  obtain ⟨rfl, K, h1, h2, h3, h4⟩ := h
  exact ⟨rfl, K, h1, hb.trans h2, m.trans h3, h4⟩
/-- Where the search of the cut begins, where it ends. -/
def Cut0 (a m b md s r : Nat) : Prop := (m ≤ md ∧ s = a ∧ r = m) ∨ (md < m ∧ s + b = md + m ∧ r = md)
theorem cut_of {a m b md s0 r0 s : Nat} {F : Nat → Int} (h : Cut0 a m b md s0 r0) (am : a < m) (mb : m < b) (m0 : a + b = 2 * md ∨ a + b = 2 * md + 1) (h1 : s0 ≤ s) (h2 : s ≤ r0)
    (le : s = s0 ∨ (0 < s ∧ F (md + m - s) ≤ F (s - 1))) (gt : s = r0 ∨ F s < F (md + m - 1 - s)) : Cut a m b md s F := by
  unfold Cut0 at h
  refine ⟨am, mb, m0, fun _ => by omega, fun _ => by omega, ?_, ?_⟩
  · rcases le with e | e
    · omega
    · exact .inr (.inr e)
  · rcases gt with e | e
    · omega
    · exact .inr (.inr e)

set_option maxRecDepth 100000 in
set_option maxHeartbeats 16000000 in
theorem sym3_calls {g n c : Nat} {F : Nat → Int} (a m b : Nat) (w : World) (h : SRow w g n c F) (h0 : a + 1 < m) (h1 : m + 1 < b) (h2 : b ≤ n) (hd : Desc a m F) (hd2 : Desc m b F)
    (IH : ∀ (F : Nat → Int) (a' m' b' : Nat) (w : World), b' - a' < b - a → SRow w g n c F → a' < m' → m' < b' → b' ≤ n → Desc a' m' F → Desc m' b' F → Calls Try.prog 98 #[.slice (some ⟨g, 0, none⟩) n c, .int .i64 a', .int .i64 m', .int .i64 b', cmpP] w (Sorted a' b' g n c F w)) :
    Calls Try.prog 98 #[.slice (some ⟨g, 0, none⟩) n c, .int .i64 a, .int .i64 m, .int .i64 b, cmpP] w (Sorted a b g n c F w) := by
  have hc := h.hc
  have hm := h.hm
  have hf := h.hf
  have H := Lib.hid h
  have HD := Lib.hid hd
  have HD2 := Lib.hid hd2
  have HI := Lib.hid IH
  have mixed : Try.prog.follows Departure.mixedOrders = true := by kernel_rfl
  have e0 : ((m : Int) - (a : Int) == 1) = false := by rw [beq_eq_false_iff_ne]; omega
  have e9 : ((b : Int) - (m : Int) == 1) = false := by rw [beq_eq_false_iff_ne]; omega
  obtain ⟨md, hmd⟩ : ∃ md, (a + b) / 2 = md := ⟨_, rfl⟩
  have e1 : ((a : Int) + (b : Int)) / 2 = (md : Int) := by omega
  have HMD : Hid (a + b = 2 * md ∨ a + b = 2 * md + 1) := Lib.hid (by omega)
  have hmd1 : a < md := by omega
  have hmd2 : md < b := by omega
  obtain ⟨N, hN⟩ : ∃ N, md + m = N := ⟨_, rfl⟩
  have e2 : (md : Int) + (m : Int) = (N : Int) := by omega
  obtain ⟨P, hP⟩ : ∃ P, P + 1 = N := ⟨N - 1, by omega⟩
  have e3 : (N : Int) - 1 = (P : Int) := by omega
  have HN := Lib.hid hN
  have HP := Lib.hid hP
  have bN : N ≤ b + b := by omega
  obtain ⟨s0, r0, hs⟩ : ∃ s0 r0 : Nat, Cut0 a m b md s0 r0 := by
    unfold Cut0
    by_cases hx : m ≤ md
    · exact ⟨a, m, .inl ⟨hx, rfl, rfl⟩⟩
    · exact ⟨md + m - b, md, .inr ⟨by omega, by omega, rfl⟩⟩
  have HS := Lib.hid hs
  have sr : s0 ≤ r0 := by unfold Cut0 at hs; omega
  have g1 : a ≤ s0 := by unfold Cut0 at hs; omega
  have g2 : r0 ≤ m := by unfold Cut0 at hs; omega
  have g3 : r0 ≤ md := by unfold Cut0 at hs; omega
  have g4 : P < b + s0 := by unfold Cut0 at hs; omega
  have g5 : r0 ≤ P := by omega
  have TC : Hid ((md : Int) < (m : Int) ∨ ¬ (md : Int) < (m : Int)) := Lib.hid (by omega)
  have T1 : Hid ((md : Int) < (m : Int) → (N : Int) - (b : Int) = (s0 : Int) ∧ Hid (md = r0)) := Lib.hid (fun hx => ⟨by unfold Cut0 at hs; omega, Lib.hid (by unfold Cut0 at hs; omega)⟩)
  have T2 : Hid (¬ (md : Int) < (m : Int) → Hid (a = s0) ∧ Hid (m = r0)) := Lib.hid (fun hx => ⟨Lib.hid (by unfold Cut0 at hs; omega), Lib.hid (by unfold Cut0 at hs; omega)⟩)
  clear h hd hd2 IH hs hmd hN hP
  go_enter Try.func98, Try.ntmps98
  go_upto_if 140 with fail
  go_cut [20, 21] (fun vs vr wx => vs = .int .i64 s0 ∧ vr = .int .i64 r0 ∧ w = wx)
  case first =>
    as_aux_lemma =>
    rcases TC.out with hx | hx
    · obtain ⟨t1, t2⟩ := T1.out hx
      go_wp2_with fail
      go_meet
      exact ⟨rfl, by rw [t2.out], rfl⟩
    · obtain ⟨t1, t2⟩ := T2.out hx
      go_wp2_with fail
      go_meet
      exact ⟨by rw [t1.out], by rw [t2.out], rfl⟩
  case rest =>
    obtain ⟨rfl, rfl, rfl⟩ := hcut
    clear TC T1 T2 e0 e9 e1 e2
    go_wp2
    go_loopw [20, 21] (fun vs vr wr => ∃ s r : Nat, vs = .int .i64 s ∧ vr = .int .i64 r ∧ s0 ≤ s ∧ s ≤ r ∧ r ≤ r0 ∧ SRow wr g n c F ∧ Below g w wr ∧ Hid (s = s0 ∨ (0 < s ∧ F (md + m - s) ≤ F (s - 1))) ∧ Hid (r = r0 ∨ F r < F (md + m - 1 - r))) (fun vs vr _ => (intOf vr).toNat - (intOf vs).toNat)
    case atStart => exact ⟨s0, r0, rfl, rfl, Nat.le_refl _, sr, Nat.le_refl _, H.out, Below.refl _ _, .inl rfl, .inl rfl⟩
    case round =>
      obtain ⟨s, r, rfl, rfl, ss, srr, rr, hr, hb, HL, HG⟩ := hrel
      generalize wr = wo at *
      have HR := Lib.hid hr
      have HB := Lib.hid hb
      clear hr hb H
      by_cases hij : (s : Int) < (r : Int)
      · obtain ⟨p, hp⟩ : ∃ p, (s + r) / 2 = p := ⟨_, rfl⟩
        have e1 : ((s : Int) + (r : Int)) / 2 = (p : Int) := by omega
        have hpj : p < r := by omega
        have hip : s ≤ p := by omega
        obtain ⟨q, hq⟩ : ∃ q, q + p = P := ⟨P - p, by omega⟩
        have eq1 : (P : Int) - (p : Int) = (q : Int) := by omega
        have hqN : md + m - 1 - p = q := by have := HP.out; have := HN.out; omega
        have hqN2 : md + m - (p + 1) = q := by have := HP.out; have := HN.out; omega
        have ca := HR.out.r.cell q (by omega)
        have cb := HR.out.r.cell p (by omega)
        have N1 : Hid (¬ F p < F q → (p + 1 = s0 ∨ (0 < p + 1 ∧ F (md + m - (p + 1)) ≤ F (p + 1 - 1)))) := Lib.hid (fun hl => .inr ⟨by omega, by rw [hqN2, Nat.add_sub_cancel]; omega⟩)
        have N2 : Hid (F p < F q → (p = r0 ∨ F p < F (md + m - 1 - p))) := Lib.hid (fun hl => .inr (by rw [hqN]; exact hl))
        clear hqN hqN2
        obtain ⟨x, hx⟩ : ∃ x, F q = x := ⟨_, rfl⟩
        obtain ⟨y, hy⟩ : ∃ y, F p = y := ⟨_, rfl⟩
        rw [hx] at ca
        rw [hy] at cb
        have HX := Lib.hid hx
        have HY := Lib.hid hy
        have SQ := Lib.hid (fun d => placed1_q x y wo d)
        have bq : (q : Int) < (n : Int) := by omega
        have bp : (p : Int) < (n : Int) := by omega
        have rp : IntKind.i64.wrap (p : Int) = (p : Int) := IntWalk.i64_in _ (by omega)
        have rq : IntKind.i64.wrap (q : Int) = (q : Int) := IntWalk.i64_in _ (by omega)
        clear hp hx hy hq
        by_cases hl : y < x
        · have hv : cmpV y x < 0 := cmpV_lt.2 hl
          have hd1 : decide (cmpV y x < 0) = true := decide_eq_true hv
          have hd2 : (!decide (cmpV y x < 0)) = false := by rw [hd1]; rfl
          have NX := Lib.hid (N2.out (by rw [HX.out, HY.out]; exact hl))
          clear N1 N2 hl
          generalize cmpV y x = v at *
          go_wp2_with fail
          go_quiet ((go_at_call 83; exact SQ.out _))
          have HR2 := Lib.hid (HR.out.drewN nq)
          have HB2 := Lib.hid (below_dn HB.out nq)
          clear SQ ca cb HR HB
          generalize wo.drewN nq = w2 at *
          go_wp2
          go_roundw
          case rel => exact ⟨s, p, rfl, rfl, ss, hip, by omega, HR2.out, HB2.out, HL, NX⟩
          case measure => simp [intOf]; omega
        · have hv : ¬ cmpV y x < 0 := fun h => hl (cmpV_lt.1 h)
          have hd1 : decide (cmpV y x < 0) = false := decide_eq_false hv
          have hd2 : (!decide (cmpV y x < 0)) = true := by rw [hd1]; rfl
          have NX := Lib.hid (N1.out (by rw [HX.out, HY.out]; exact hl))
          clear N1 N2 hl
          generalize cmpV y x = v at *
          go_wp2_with fail
          go_quiet ((go_at_call 83; exact SQ.out _))
          have HR2 := Lib.hid (HR.out.drewN nq)
          have HB2 := Lib.hid (below_dn HB.out nq)
          clear SQ ca cb HR HB
          generalize wo.drewN nq = w2 at *
          go_wp2
          go_roundw
          case rel => exact ⟨p + 1, r, by go_num, rfl, by omega, by omega, rr, HR2.out, HB2.out, NX, HG⟩
          case measure => simp [intOf]; omega
      · obtain rfl : s = r := by omega
        have cut := cut_of HS.out (by omega) (by omega) HMD.out ss rr HL.out HG.out
        obtain ⟨f1, f2, f3, f4, f5, f6, -, -⟩ := cut.facts
        have hv := cut.halves HD.out HD2.out
        obtain ⟨e, he⟩ : ∃ e, md + m - s = e := ⟨_, rfl⟩
        rw [he] at hv f4 f5 f6
        have ee : (N : Int) - (s : Int) = (e : Int) := by have := HN.out; omega
        have R1 : Hid (s < m → m < e → ∀ W, SRow W g n c F → Calls Try.prog 103 #[.slice (some ⟨g, 0, none⟩) n c, .int .i64 s, .int .i64 m, .int .i64 e, cmpP] W (Turned g n c (rotF F s m e) W)) := Lib.hid (fun h1 h2 W hW => rotate_calls s m e W hW h1 h2 (by omega))
        have R2 : Hid (¬ (s < m ∧ m < e) → rotF F s m e = F) := Lib.hid (fun hx => rot_none f2 f4 (by omega))
        have MV : Hid (Mv a b n F (rotF F s m e)) := Lib.hid (by
          by_cases hx : s < m ∧ m < e
          · exact Mv.rotA F h2 f1 hx.1 hx.2 f6
          · rw [R2.out hx]; exact Mv.refl _ _ _ _)
        have HV := Lib.hid hv
        clear cut hv he HL HG HD HD2 HS HMD hij HN HP
        generalize rotF F s m e = G at *
        have TB : ∃ t : Bool, (decide (s < m) && decide (m < e)) = t := ⟨_, rfl⟩
        obtain ⟨t1, ht1⟩ := TB
        have HT1 := Lib.hid ht1
        clear ht1
        go_upto_region 39 with fail
        go_cut [185] (fun t wx => t = .bool t1 ∧ wo = wx)
        case first =>
          as_aux_lemma =>
          clear R1 HR HB HV HI MV R2
          by_cases hx : s < m
          · have hxz : (s : Int) < (m : Int) := by omega
            by_cases hy : m < e
            · have hyz : (m : Int) < (e : Int) := by omega
              go_wp2_with fail
              go_meet
              exact ⟨by rw [← HT1.out, decide_eq_true hx, decide_eq_true hy]; rfl, rfl⟩
            · have hyz : ¬ (m : Int) < (e : Int) := by omega
              go_wp2_with fail
              go_meet
              exact ⟨by rw [← HT1.out, decide_eq_true hx, decide_eq_false hy]; rfl, rfl⟩
          · have hxz : ¬ (s : Int) < (m : Int) := by omega
            go_wp2_with fail
            go_meet
            exact ⟨by rw [← HT1.out, decide_eq_false hx]; rfl, rfl⟩
        case rest =>
          obtain ⟨rfl, rfl⟩ := hcut
          go_upto_if 185 with fail
          go_cut [] (fun wx => SRow wx g n c G ∧ Below g w wx)
          case first =>
            as_aux_lemma =>
            have ht := HT1.out
            clear HT1
            cases t1
            · have Q1 : Hid (SRow wo g n c G ∧ Below g w wo) := Lib.hid (by rw [R2.out (by intro hx; rw [decide_eq_true hx.1, decide_eq_true hx.2] at ht; cases ht)]; exact ⟨HR.out, HB.out⟩)
              clear R1 R2 ht
              go_wp2_with fail
              go_meet
              exact Q1.out
            · rw [Bool.and_eq_true, decide_eq_true_eq, decide_eq_true_eq] at ht
              have RC := Lib.hid (R1.out ht.1 ht.2 wo HR.out)
              clear R1 R2 ht
              go_wp2_with fail
              refine (RC.out).mono ?_
              rintro e' w2 ⟨rfl, r1, b1⟩
              have Q1 := Lib.hid (And.intro r1 (HB.out.trans b1))
              clear r1 b1
              go_wp2_with fail
              go_meet
              exact Q1.out
          case rest =>
            clear HR HB R1 R2 HT1 t1
            obtain ⟨hr, hb⟩ := hcut
            rename World => wz
            have HR := Lib.hid hr
            have HB := Lib.hid hb
            clear hr hb
            have SA : Hid (∀ W, SRow W g n c G → a < s → s < md → Calls Try.prog 98 #[.slice (some ⟨g, 0, none⟩) n c, .int .i64 a, .int .i64 s, .int .i64 md, cmpP] W (Sorted a md g n c G W)) := Lib.hid (fun W hW h1 h2 => HI.out G a s md W (by omega) hW h1 h2 (by omega) HV.out.d1 HV.out.d2)
            have SB : Hid (∀ W K, SRow W g n c K → Mv a md n G K → md < e → e < b → Calls Try.prog 98 #[.slice (some ⟨g, 0, none⟩) n c, .int .i64 md, .int .i64 e, .int .i64 b, cmpP] W (Sorted md b g n c K W)) := Lib.hid (fun W K hW hK h1 h2 => HI.out K md e b W (by omega) hW h1 h2 (by omega) (HV.out.d3.congr fun k k0 _ => hK.out k (by omega)) (HV.out.d4.congr fun k k0 _ => hK.out k (by omega)))
            have DA : Hid (¬ (a < s ∧ s < md) → Desc a md G) := Lib.hid (fun hx => by
              by_cases h : a < s
              · have : md ≤ s := by omega
                exact HV.out.d1.sub (Nat.le_refl _) this
              · have : s ≤ a := by omega
                exact HV.out.d2.sub this (Nat.le_refl _))
            have DB : Hid (∀ K, Mv a md n G K → ¬ (md < e ∧ e < b) → Desc md b K) := Lib.hid (fun K hK hx => by
              by_cases h : md < e
              · have : b ≤ e := by omega
                exact (HV.out.d3.sub (Nat.le_refl _) this).congr fun k k0 _ => hK.out k (by omega)
              · have : e ≤ md := by omega
                exact (HV.out.d4.sub this (Nat.le_refl _)).congr fun k k0 _ => hK.out k (by omega))
            obtain ⟨t2, ht2⟩ : ∃ t : Bool, (decide (a < s) && decide (s < md)) = t := ⟨_, rfl⟩
            have HT2 := Lib.hid ht2
            obtain ⟨t3, ht3⟩ : ∃ t : Bool, (decide (md < e) && decide (e < b)) = t := ⟨_, rfl⟩
            have HT3 := Lib.hid ht3
            clear HI ht2 ht3
            go_upto_region 41 with fail
            go_cut [199] (fun t wx => t = .bool t2 ∧ wz = wx)
            case first =>
              as_aux_lemma =>
              clear HR HB HV MV SA SB DA DB HT3
              by_cases hx : a < s
              · have hxz : (a : Int) < (s : Int) := by omega
                by_cases hy : s < md
                · have hyz : (s : Int) < (md : Int) := by omega
                  go_wp2_with fail
                  go_meet
                  exact ⟨by rw [← HT2.out, decide_eq_true hx, decide_eq_true hy]; rfl, rfl⟩
                · have hyz : ¬ (s : Int) < (md : Int) := by omega
                  go_wp2_with fail
                  go_meet
                  exact ⟨by rw [← HT2.out, decide_eq_true hx, decide_eq_false hy]; rfl, rfl⟩
              · have hxz : ¬ (a : Int) < (s : Int) := by omega
                go_wp2_with fail
                go_meet
                exact ⟨by rw [← HT2.out, decide_eq_false hx]; rfl, rfl⟩
            case rest =>
              obtain ⟨rfl, rfl⟩ := hcut
              go_upto_if 199 with fail
              go_cut [] (fun wx => ∃ G1, SRow wx g n c G1 ∧ Below g w wx ∧ Mv a md n G G1 ∧ Desc a md G1)
              case first =>
                as_aux_lemma =>
                have ht := HT2.out
                clear HT2 HT3 SB DB MV HV
                cases t2
                · have Q1 : Hid (∃ G1, SRow wz g n c G1 ∧ Below g w wz ∧ Mv a md n G G1 ∧ Desc a md G1) := Lib.hid ⟨G, HR.out, HB.out, Mv.refl _ _ _ _, DA.out (by intro hx; rw [decide_eq_true hx.1, decide_eq_true hx.2] at ht; cases ht)⟩
                  clear SA DA ht
                  go_wp2_with fail
                  go_meet
                  exact Q1.out
                · rw [Bool.and_eq_true, decide_eq_true_eq, decide_eq_true_eq] at ht
                  have RC := Lib.hid (SA.out wz HR.out ht.1 ht.2)
                  clear SA DA ht
                  go_wp2_with fail
                  refine (RC.out).mono ?_
                  rintro e' w2 ⟨rfl, G1, r1, b1, m1, d1⟩
                  have Q1 : Hid (∃ G1, SRow w2 g n c G1 ∧ Below g w w2 ∧ Mv a md n G G1 ∧ Desc a md G1) := Lib.hid ⟨G1, r1, HB.out.trans b1, m1, d1⟩
                  clear r1 b1 m1 d1
                  go_wp2_with fail
                  go_meet
                  exact Q1.out
              case rest =>
                clear HR HB SA DA HT2 t2
                obtain ⟨G1, hr, hb, m1, d1⟩ := hcut
                rename World => wz
                have HR := Lib.hid hr
                have HB := Lib.hid hb
                have M1 := Lib.hid m1
                have FIN : Hid (∀ W H, SRow W g n c H → Below g w W → Mv md b n G1 H → Desc md b H → Sorted a b g n c F w (.returned (.tuple #[])) W) := Lib.hid (fun W H h1 h2 h3 h4 => ⟨rfl, H, h1, h2, (MV.out.trans (m1.mono (Nat.le_refl _) (by omega))).trans (h3.mono (by omega) (Nat.le_refl _)), HV.out.done m1 d1 h3 h4⟩)
                clear hr hb m1 d1 MV HV
                go_upto_region 43 with fail
                go_cut [213] (fun t wx => t = .bool t3 ∧ wz = wx)
                case first =>
                  as_aux_lemma =>
                  clear HR HB SB DB FIN M1
                  by_cases hx : md < e
                  · have hxz : (md : Int) < (e : Int) := by omega
                    by_cases hy : e < b
                    · have hyz : (e : Int) < (b : Int) := by omega
                      go_wp2_with fail
                      go_meet
                      exact ⟨by rw [← HT3.out, decide_eq_true hx, decide_eq_true hy]; rfl, rfl⟩
                    · have hyz : ¬ (e : Int) < (b : Int) := by omega
                      go_wp2_with fail
                      go_meet
                      exact ⟨by rw [← HT3.out, decide_eq_true hx, decide_eq_false hy]; rfl, rfl⟩
                  · have hxz : ¬ (md : Int) < (e : Int) := by omega
                    go_wp2_with fail
                    go_meet
                    exact ⟨by rw [← HT3.out, decide_eq_false hx]; rfl, rfl⟩
                case rest =>
                  obtain ⟨rfl, rfl⟩ := hcut
                  have ht := HT3.out
                  clear HT3
                  cases t3
                  · have Q1 := Lib.hid (FIN.out wz G1 HR.out HB.out (Mv.refl _ _ _ _) (DB.out G1 M1.out (by intro hx; rw [decide_eq_true hx.1, decide_eq_true hx.2] at ht; cases ht)))
                    clear SB DB FIN ht
                    go_wp2
                    go_end0
                    exact Q1.out
                  · rw [Bool.and_eq_true, decide_eq_true_eq, decide_eq_true_eq] at ht
                    have RC := Lib.hid (SB.out wz G1 HR.out M1.out ht.1 ht.2)
                    clear SB DB ht
                    go_wp2_with fail
                    refine (RC.out).mono ?_
                    rintro e' w2 ⟨rfl, H, r1, b1, m1, d1⟩
                    have Q1 := Lib.hid (FIN.out w2 H r1 (HB.out.trans b1) m1 d1)
                    clear r1 b1 m1 d1 FIN
                    go_wp2
                    go_end0
                    exact Q1.out

theorem sym_calls {g n c : Nat} : ∀ (K : Nat) (F : Nat → Int) (a m b : Nat) (w : World), b - a < K → SRow w g n c F → a < m → m < b → b ≤ n → Desc a m F → Desc m b F →
    Calls Try.prog 98 #[.slice (some ⟨g, 0, none⟩) n c, .int .i64 a, .int .i64 m, .int .i64 b, cmpP] w (Sorted a b g n c F w)
  | 0, _, _, _, _, _, h, _, _, _, _, _, _ => absurd h (by omega)
  | K + 1, F, a, m, b, w, h, hr, h1, h2, h3, d1, d2 => by
    by_cases h4 : a + 1 = m
    · exact sym1_calls a m b w hr h4 h2 h3 d2
    · by_cases h5 : m + 1 = b
      · exact sym2_calls a m b w hr (by omega) h5 h3 d1
      · exact sym3_calls a m b w hr (by omega) (by omega) h3 d1 d2 (fun F' a' m' b' w' k1 k2 k3 k4 k5 k6 k7 => sym_calls K F' a' m' b' w' (by omega) k2 k3 k4 k5 k6 k7)
end Go.Proofs.Ytfhikdgdckfalaa

/- stableCmpFunc, SortStableFunc: a row of integers, sorted. -/
namespace Go.Proofs.Ytfhikdgdckfalaa
open Go.RowKit
set_option linter.unusedVariables false

/-- The first q blocks of s elements descend. -/
def Pre (s q : Nat) (K : Nat → Int) : Prop := ∀ t, t < q → Desc (t * s) (t * s + s) K
/-- The blocks of s elements from p on descend. -/
def Suf (s p e : Nat) (K : Nat → Int) : Prop := ∀ t, p + t * s < e → ∀ i j, p + t * s ≤ i → i ≤ j → j < p + t * s + s → j < e → K j ≤ K i
theorem Pre.zero (s : Nat) (K : Nat → Int) : Pre s 0 K := fun t h => absurd h (by omega)
theorem blk_le {s t q : Nat} (h : t < q) : t * s + s ≤ q * s := by
  have : (t + 1) * s ≤ q * s := Nat.mul_le_mul_right s h
  rwa [Nat.add_mul, Nat.one_mul] at this
theorem Pre.congr {s q : Nat} {K K2 : Nat → Int} (h : Pre s q K) (e : ∀ k, k < q * s → K2 k = K k) : Pre s q K2 := fun t ht =>
  (h t ht).congr fun k _ hk => e k (by have := blk_le (s := s) ht; omega)
theorem Pre.snoc {s q : Nat} {K : Nat → Int} (h : Pre s q K) (d : Desc (q * s) (q * s + s) K) : Pre s (q + 1) K := fun t ht => by
  by_cases e : t = q
  · subst e; exact d
  · exact h t (by omega)
theorem Suf.congr {s p e : Nat} {K K2 : Nat → Int} (h : Suf s p e K) (c : ∀ k, p ≤ k → k < e → K2 k = K k) : Suf s p e K2 := fun t ht i j i0 ij j1 je => by
  rw [c i (by omega) (by omega), c j (by omega) je]; exact h t ht i j i0 ij j1 je
theorem Suf.head {s p e : Nat} {K : Nat → Int} (h : Suf s p e K) (hs : p + s ≤ e) (h0 : 0 < s) : Desc p (p + s) K := fun i j i0 ij j1 =>
  h 0 (by omega) i j (by omega) ij (by omega) (by omega)
theorem Suf.tail {s p e : Nat} {K : Nat → Int} (h : Suf s p e K) : Suf s (p + s) e K := fun t ht i j i0 ij j1 je => by
  have e1 : p + (t + 1) * s = p + s + t * s := by rw [Nat.add_mul, Nat.one_mul]; omega
  exact h (t + 1) (by omega) i j (by omega) ij (by omega) je
theorem Suf.last {s p e : Nat} {K : Nat → Int} (h : Suf s p e K) (hs : e ≤ p + s) : Desc p e K := fun i j i0 ij j1 =>
  h 0 (by omega) i j (by omega) ij (by omega) j1
theorem Suf.of {s q e : Nat} {K : Nat → Int} (h : Pre s q K) (d : Desc (q * s) e K) (h2 : e ≤ q * s + s) : Suf s 0 e K := fun t ht i j i0 ij j1 je => by
  rcases Nat.lt_trichotomy t q with h1 | h1 | h1
  · exact h t h1 i j (by omega) ij (by omega)
  · subst h1; exact d i j (by omega) ij je
  · have := blk_le (s := s) h1; omega

set_option maxRecDepth 100000 in
set_option maxHeartbeats 8000000 in
theorem stable_calls {g n c : Nat} {F : Nat → Int} (w : World) (h : SRow w g n c F) (hn1 : n ≤ 100000000) :
    Calls Try.prog 89 #[.slice (some ⟨g, 0, none⟩) n c, .int .i64 n, cmpP] w (Sorted 0 n g n c F w) := by
  have hc := h.hc
  have hm := h.hm
  have hf := h.hf
  have H := Lib.hid h
  clear h
  go_enter Try.func89, Try.ntmps89
  go_wp2
  go_loopw [7, 8] (fun va vb wr => ∃ (a b q : Nat) (K : Nat → Int), va = .int .i64 a ∧ vb = .int .i64 b ∧ Hid (a = q * 20) ∧ Hid (b = a + 20) ∧ a ≤ n ∧ SRow wr g n c K ∧ Below g w wr ∧ Mv 0 n n F K ∧ Pre 20 q K) (fun va _ _ => n - (intOf va).toNat)
  case atStart => exact ⟨0, 20, 0, F, rfl, rfl, rfl, rfl, Nat.zero_le _, H.out, Below.refl _ _, Mv.refl _ _ _ _, Pre.zero _ _⟩
  case round =>
    obtain ⟨a, b, q, K, rfl, rfl, ha, hb, an, hr, hbe, hmv, hp⟩ := hrel
    generalize wr = wo at *
    have HR := Lib.hid hr
    have HB := Lib.hid hbe
    have HM := Lib.hid hmv
    have HP := Lib.hid hp
    clear hr hbe hmv hp H
    have b0 : b ≤ n + 20 := by have := hb.out; omega
    have b1 : a < b := by have := hb.out; omega
    by_cases hbn : (b : Int) ≤ (n : Int)
    · have IC := Lib.hid (insertion_calls a b wo HR.out (by omega) (by omega))
      obtain ⟨b2, hb2⟩ : ∃ b2, b + 20 = b2 := ⟨_, rfl⟩
      have e1 : (b : Int) + 20 = (b2 : Int) := by omega
      have NX : Hid (∀ G, Mv a b n K G → Desc a b G → Hid (b = (q + 1) * 20) ∧ Hid (b2 = b + 20) ∧ Mv 0 n n F G ∧ Pre 20 (q + 1) G) := Lib.hid (fun G m1 d1 => by
        have h1 := ha.out
        have h2 := hb.out
        exact ⟨Lib.hid (by omega), Lib.hid (by omega), HM.out.trans (m1.mono (by omega) (by omega)), (HP.out.congr fun k hk => m1.out k (by omega)).snoc (by rw [← h1, ← h2]; exact d1)⟩)
      clear HM HP HR ha hb hb2
      go_wp2_with fail
      refine (IC.out).mono ?_
      rintro e w1 ⟨rfl, G, r1, bb1, m1, d1⟩
      obtain ⟨n1, n2, n3, n4⟩ := NX.out G m1 d1
      have R1 := Lib.hid r1
      have B1 := Lib.hid (HB.out.trans bb1)
      have N3 := Lib.hid n3
      have N4 := Lib.hid n4
      clear r1 bb1 m1 d1 n3 n4 NX
      go_wp2
      go_roundw
      case rel => exact ⟨b, b2, q + 1, G, rfl, by go_num, n1, n2, by omega, R1.out, B1.out, N3.out, N4.out⟩
      case measure => simp [intOf]; omega
    · have IC := Lib.hid (insertion_calls a n wo HR.out an (Nat.le_refl _))
      have NX : Hid (∀ G, Mv a n n K G → Desc a n G → Mv 0 n n F G ∧ Suf 20 0 n G) := Lib.hid (fun G m1 d1 => by
        have h1 := ha.out
        have h2 := hb.out
        exact ⟨HM.out.trans (m1.mono (by omega) (by omega)), Suf.of (HP.out.congr fun k hk => m1.out k (by omega)) (by rw [← h1]; exact d1) (by omega)⟩)
      clear HM HP HR ha hb b0 b1
      go_wp2_with fail
      refine (IC.out).mono ?_
      rintro e w1 ⟨rfl, G, r1, bb1, m1, d1⟩
      obtain ⟨n3, n4⟩ := NX.out G m1 d1
      have R1 := Lib.hid r1
      have B1 := Lib.hid (HB.out.trans bb1)
      have N3 := Lib.hid n3
      have N4 := Lib.hid n4
      clear r1 bb1 m1 d1 n3 n4 NX HB
      go_wp2
      go_loopw [6] (fun vs wr => ∃ (s : Nat) (K : Nat → Int), vs = .int .i64 s ∧ 20 ≤ s ∧ s ≤ 2 * n + 20 ∧ SRow wr g n c K ∧ Below g w wr ∧ Mv 0 n n F K ∧ Suf s 0 n K) (fun vs _ => n - (intOf vs).toNat)
      case atStart => exact ⟨20, G, rfl, by omega, by omega, R1.out, B1.out, N3.out, N4.out⟩
      case round =>
        clear R1 B1 N3 N4
        obtain ⟨s, K, rfl, s0, s1, hr, hbe, hmv, hp⟩ := hrel
        generalize wr = wq at *
        have HR := Lib.hid hr
        have HB := Lib.hid hbe
        have HM := Lib.hid hmv
        have HP := Lib.hid hp
        clear hr hbe hmv hp
        by_cases hsn : (s : Int) < (n : Int)
        · obtain ⟨s2, hs2⟩ : ∃ s2, 2 * s = s2 := ⟨_, rfl⟩
          have e1 : 2 * (s : Int) = (s2 : Int) := by omega
          have e2 : (s : Int) * 2 = (s2 : Int) := by omega
          have HS2 := Lib.hid hs2
          have s3 : s2 ≤ 2 * n := by omega
          have s4 : 2 * s ≤ s2 := by omega
          clear hs2
          go_wp2
          go_loopw [7, 8] (fun va vb wr => ∃ (a b q : Nat) (K : Nat → Int), va = .int .i64 a ∧ vb = .int .i64 b ∧ Hid (a = q * s2) ∧ Hid (b = a + s2) ∧ a ≤ n ∧ SRow wr g n c K ∧ Below g w wr ∧ Mv 0 n n F K ∧ Pre s2 q K ∧ Suf s a n K) (fun va _ _ => n - (intOf va).toNat)
          case atStart => exact ⟨0, s2, 0, K, rfl, rfl, by show _ = _; simp, by show _ = _; simp, Nat.zero_le _, HR.out, HB.out, HM.out, Pre.zero _ _, HP.out⟩
          case round =>
            clear HR HB HM HP
            obtain ⟨a, b, q, K, rfl, rfl, ha, hb, an, hr, hbe, hmv, hp, hq⟩ := hrel
            generalize wr = wq at *
            have HR := Lib.hid hr
            have HB := Lib.hid hbe
            have HM := Lib.hid hmv
            have HP := Lib.hid hp
            have HQ := Lib.hid hq
            clear hr hbe hmv hp hq
            have b0 : b ≤ n + s2 := by have := hb.out; omega
            have b1 : a < b := by have := hb.out; omega
            obtain ⟨m, hm⟩ : ∃ m, a + s = m := ⟨_, rfl⟩
            have e3 : (a : Int) + (s : Int) = (m : Int) := by omega
            have HMM := Lib.hid hm
            have m0 : a < m := by omega
            have m1 : m < b := by have := hb.out; omega
            have m2 : m ≤ n + n := by omega
            clear hm
            by_cases hbn : (b : Int) ≤ (n : Int)
            · have h1 := ha.out
              have h2 := hb.out
              have h3 := HMM.out
              have h4 := HS2.out
              have h5 := HQ.out.tail
              rw [h3] at h5
              have IC := Lib.hid (sym_calls (b - a + 1) K a m b wq (by omega) HR.out m0 m1 (by omega) (by rw [← h3]; exact HQ.out.head (by omega) (by omega)) (by rw [show b = m + s by omega]; exact h5.head (by omega) (by omega)))
              obtain ⟨b2, hb2⟩ : ∃ b2, b + s2 = b2 := ⟨_, rfl⟩
              have e4 : (b : Int) + (s2 : Int) = (b2 : Int) := by omega
              have h6 := h5.tail
              rw [show m + s = b by omega] at h6
              have HX := Lib.hid h6
              have NX : Hid (∀ G, Mv a b n K G → Desc a b G → Hid (b = (q + 1) * s2) ∧ Hid (b2 = b + s2) ∧ Mv 0 n n F G ∧ Pre s2 (q + 1) G ∧ Suf s b n G) := Lib.hid (fun G m1 d1 => by
                have h7 : (q + 1) * s2 = q * s2 + s2 := by rw [Nat.add_mul, Nat.one_mul]
                exact ⟨Lib.hid (by omega), Lib.hid (by omega), HM.out.trans (m1.mono (by omega) (by omega)), (HP.out.congr fun k hk => m1.out k (by omega)).snoc (by rw [← h1, ← h2]; exact d1), HX.out.congr fun k k0 _ => m1.out k (by omega)⟩)
              clear HM HP HQ HR HX ha hb hb2 h1 h2 h3 h4 h5 h6 HMM HS2
              go_wp2_with fail
              refine (IC.out).mono ?_
              rintro e w1 ⟨rfl, G, r1, bb1, mm1, d1⟩
              obtain ⟨n1, n2, n3, n4, n5⟩ := NX.out G mm1 d1
              have R1 := Lib.hid r1
              have B1 := Lib.hid (HB.out.trans bb1)
              have N3 := Lib.hid n3
              have N4 := Lib.hid n4
              have N5 := Lib.hid n5
              clear r1 bb1 mm1 d1 n3 n4 n5 NX
              go_wp2
              go_roundw
              case rel => exact ⟨b, b2, q + 1, G, rfl, by go_num, n1, n2, by omega, R1.out, B1.out, N3.out, N4.out, N5.out⟩
              case measure => simp [intOf]; omega
            · by_cases hmn : (m : Int) < (n : Int)
              · have h1 := ha.out
                have h2 := hb.out
                have h3 := HMM.out
                have h4 := HS2.out
                have h5 := HQ.out.tail
                rw [h3] at h5
                have IC := Lib.hid (sym_calls (n - a + 1) K a m n wq (by omega) HR.out m0 (by omega) (Nat.le_refl _) (by rw [← h3]; exact HQ.out.head (by omega) (by omega)) (h5.last (by omega)))
                have NX : Hid (∀ G, Mv a n n K G → Desc a n G → Mv 0 n n F G ∧ Suf s2 0 n G) := Lib.hid (fun G m1 d1 =>
                  ⟨HM.out.trans (m1.mono (by omega) (by omega)), Suf.of (HP.out.congr fun k hk => m1.out k (by omega)) (by rw [← h1]; exact d1) (by omega)⟩)
                clear HM HP HQ HR ha hb h1 h2 h3 h4 h5 HMM HS2
                go_wp2_with fail
                refine (IC.out).mono ?_
                rintro e w1 ⟨rfl, G, r1, bb1, mm1, d1⟩
                obtain ⟨n3, n4⟩ := NX.out G mm1 d1
                have R1 := Lib.hid r1
                have B1 := Lib.hid (HB.out.trans bb1)
                have N3 := Lib.hid n3
                have N4 := Lib.hid n4
                clear r1 bb1 mm1 d1 n3 n4 NX
                go_wp2
                go_roundw
                case rel => exact ⟨s2, G, by go_num, by omega, by omega, R1.out, B1.out, N3.out, N4.out⟩
                case measure => simp [intOf]; omega
              · have N4 : Hid (Suf s2 0 n K) := Lib.hid (by
                  have h1 := ha.out
                  have h2 := hb.out
                  have h3 := HMM.out
                  have h4 := HS2.out
                  exact Suf.of HP.out (by rw [← h1]; exact HQ.out.last (by omega)) (by omega))
                clear HP HQ ha hb HMM HS2
                go_wp2
                go_roundw
                case rel => exact ⟨s2, K, by go_num, by omega, by omega, HR.out, HB.out, HM.out, N4.out⟩
                case measure => simp [intOf]; omega
        · have D := Lib.hid (HP.out.last (by omega))
          go_wp2
          go_end0
          exact ⟨rfl, K, HR.out, HB.out, HM.out, D.out⟩

theorem sortStable_calls {g n c : Nat} {F : Nat → Int} (w : World) (h : SRow w g n c F) (hn1 : n ≤ 100000000) :
    Calls Try.prog 82 #[.slice (some ⟨g, 0, none⟩) n c, cmpP] w (Sorted 0 n g n c F w) := by
  have SC := Lib.hid (stable_calls w h hn1)
  clear h
  go_enter Try.func82, Try.ntmps82
  go_wp2_with fail
  refine (SC.out).mono ?_
  rintro e w1 hs
  obtain ⟨rfl, G, h1, h2, h3, h4⟩ := hs
  have Q : Hid (Sorted 0 n g n c F w (.returned (.tuple #[])) w1) := Lib.hid ⟨rfl, G, h1, h2, h3, h4⟩
  clear h1 h2 h3 h4
  go_wp2
  go_end0
  exact Q.out
end Go.Proofs.Ytfhikdgdckfalaa
