/- the law OpeningsEnough returns true -/
import Derived.Test.YtfalmbcnbomaoaaWB
import Derived.Deep.DeepCutAuto
import Derived.Deep.CutRange
namespace Go.Proofs.Ytfalmbcnbomaoaa
open Go.Proofs.Ytfalmbcnbomaoaa.DivLaw Go.Proofs.Ytfalmbcnbomaoaa.Open Go.RowKit
set_option linter.unusedVariables false

/-- Whether a flow, or that it is too great, is enough. -/
def enoughB (q a e : Int) : Bool := (e == 5) || ((e == 0) && decide (q ≤ a))
theorem enough_flow (q x : Int) (hq : q ≤ 1099511627776) : enoughB q (flowV x).1 (flowV x).2 = decide (q ≤ x) := by
  unfold enoughB
  by_cases c : 1099511627776 < x
  · rw [flowV_no c, decide_eq_true (show q ≤ x by omega)]; rfl
  · rw [flowV_ok c]; simp

set_option maxHeartbeats 1000000 in
theorem Enough_closure (q a e : Int) (b2 : Nat) (w : World) (c2 : w.cell? ⟨b2, 0, none⟩ = some (.int .i64 q)) :
    Calls Try.prog 27 #[.int .i64 a, .int .i64 e, .pointer (some ⟨b2, 0, none⟩)] w fun E w' => E = .returned (.bool (enoughB q a e)) ∧ Below w.heap.size w w' := by
  unfold enoughB
  by_cases c5 : e = 5
  · have k5 : ((e : Int) == 5) = true := by rw [beq_iff_eq]; exact c5
    rw [k5, Bool.true_or]
    clear c5
    go_enter Try.func27, Try.ntmps27
    go_wp2_with fail
    go_returns
    exact ⟨rfl, by go_grown⟩
  · have k5 : ((e : Int) == 5) = false := by rw [beq_eq_false_iff_ne]; exact c5
    rw [k5, Bool.false_or]
    clear c5
    by_cases c0 : e = 0
    · have k0 : ((e : Int) == 0) = true := by rw [beq_iff_eq]; exact c0
      rw [k0, Bool.true_and]
      clear c0
      by_cases ca : q ≤ a
      · rw [decide_eq_true ca]
        go_enter Try.func27, Try.ntmps27
        go_wp2_with fail
        go_returns
        exact ⟨rfl, by go_grown⟩
      · rw [decide_eq_false ca]
        go_enter Try.func27, Try.ntmps27
        go_wp2_with fail
        go_returns
        exact ⟨rfl, by go_grown⟩
    · have k0 : ((e : Int) == 0) = false := by rw [beq_eq_false_iff_ne]; exact c0
      rw [k0, Bool.false_and]
      clear c0
      go_enter Try.func27, Try.ntmps27
      go_wp2_with fail
      go_returns
      exact ⟨rfl, by go_grown⟩

/-- The law's box of the flow and of the link. -/
structure Box2 (W : World) (g : Nat) (q : Int) (n0 n1 n2 sc : ByteArray) (kd ln up dn wd ht : Int) (ca : Option Addr) (cn cc : Nat) : Prop where
  l : AtL W g n0 n1 n2 sc kd ln up dn wd ht ca cn cc
  c : W.cell? ⟨g + 1, 0, none⟩ = some (.int .i64 q)
  lt : g + 1 < W.heap.size
theorem Box2.below {W w1 : World} {g : Nat} {q : Int} {n0 n1 n2 sc : ByteArray} {kd ln up dn wd ht : Int} {ca : Option Addr} {cn cc : Nat} (h : Box2 W g q n0 n1 n2 sc kd ln up dn wd ht ca cn cc) (hb : Below W.heap.size W w1) : Box2 w1 g q n0 n1 n2 sc kd ln up dn wd ht ca cn cc :=
  ⟨h.l.below hb, (hb.cell (p := ⟨g + 1, 0, none⟩) h.lt).trans h.c, Nat.lt_of_lt_of_le h.lt hb.size⟩
theorem Box2.new_ (n0 n1 n2 sc : ByteArray) (kd ln up dn wd ht : Int) (ca : Option Addr) (cn cc : Nat) (q : Int) (w : World) : Box2 ((w.alloc (.cells #[.string n0, .string n1, .string n2, .int .i64 kd, .int .i64 ln, .int .i64 up, .int .i64 dn, .string sc, .int .i64 wd, .int .i64 ht, .slice ca cn cc] 32)).alloc (.cells #[.int .i64 q] 3)) w.heap.size q n0 n1 n2 sc kd ln up dn wd ht ca cn cc :=
  ⟨(AtL.new_ n0 n1 n2 sc kd ln up dn wd ht ca cn cc w).alloc _, by go_simp, by simp⟩

theorem OpeningV_in {kd up wd ht q a b h : Int} (hg : isGateB kd up wd ht = true) (h1 : 0 ≤ q) (h2 : q ≤ 1099511627776) (ha : levelB a = true) (hb : levelB b = true) (hh : headV up a b = h) (hc : h ≤ 1048576) :
    OpeningV kd up wd ht q a b = foundV 1000 (leastS wd ht q h) := by
  unfold OpeningV
  rw [hh, if_pos hg, if_pos ⟨⟨h1, h2⟩, ha, hb⟩, if_neg (by omega)]
theorem final_below {B : Nat} {w W v : World} (h : Hid (Below B w W ∧ B ≤ W.heap.size)) (hb : Below W.heap.size W v) : Below B w v := h.out.1.trans (hb.mono h.out.2)

set_option maxRecDepth 100000 in
set_option maxHeartbeats 16000000 in
theorem Enough_calls (n0 n1 n2 sc : ByteArray) (kd ln up dn wd ht : Int) (ca : Option Addr) (cn cc : Nat) (wb q a b : Int) (w : World) : Calls Try.prog 8 #[.agg #[.string n0, .string n1, .string n2, .int .i64 kd, .int .i64 ln, .int .i64 up, .int .i64 dn, .string sc, .int .i64 wd, .int .i64 ht, .slice ca cn cc], .int .i64 wb, .int .i64 q, .int .i64 a, .int .i64 b] w fun e w' => e = .returned (.bool true) ∧ Below w.heap.size w w' := by
  obtain ⟨bb, hbb⟩ : ∃ bb : Bool, (bb = true ∧ 1 ≤ wb ∧ wb ≤ 1048576 ∧ 0 ≤ q ∧ q ≤ 1099511627776) ∨ (bb = false ∧ ((¬ 1 ≤ wb) ∨ (1 ≤ wb ∧ ¬ wb ≤ 1048576) ∨ (1 ≤ wb ∧ wb ≤ 1048576 ∧ ¬ 0 ≤ q) ∨ (1 ≤ wb ∧ wb ≤ 1048576 ∧ 0 ≤ q ∧ ¬ q ≤ 1099511627776))) := by
    by_cases h : 1 ≤ wb ∧ wb ≤ 1048576 ∧ 0 ≤ q ∧ q ≤ 1099511627776
    · exact ⟨true, .inl ⟨rfl, h⟩⟩
    · exact ⟨false, .inr ⟨rfl, by omega⟩⟩
  have HB := Lib.hid hbb
  have A0 := Lib.hid (Box2.new_ n0 n1 n2 sc kd ln up dn wd ht ca cn cc q w)
  clear hbb
  go_enter Try.func8, Try.ntmps8
  go_wp2_with fail
  refine (awake_calls _).mono ?_
  rintro e w1 ⟨rfl, hb1⟩
  have A1 := Lib.hid (A0.out.below hb1)
  have HW := Lib.hid (And.intro (((Below.refl w.heap.size w).alloc (Nat.le_refl _) (.cells #[.string n0, .string n1, .string n2, .int .i64 kd, .int .i64 ln, .int .i64 up, .int .i64 dn, .string sc, .int .i64 wd, .int .i64 ht, .slice ca cn cc] 32) |>.alloc (by simp) (.cells #[.int .i64 q] 3)).trans (hb1.mono (by simp; omega))) (show w.heap.size ≤ w1.heap.size by have := hb1.size; simp at this; omega))
  clear A0 hb1
  go_upto_region 4 with fail
  go_cut [32] (fun t wx => t = .bool bb ∧ Below w1.heap.size w1 wx)
  case first =>
    as_aux_lemma =>
    obtain ⟨-, fq, -⟩ := A1.out
    rcases HB.out with ⟨rfl, i1, i2, i3, i4⟩ | ⟨rfl, i1 | ⟨i1, i2⟩ | ⟨i1, i2, i3⟩ | ⟨i1, i2, i3, i4⟩⟩
    all_goals (go_wp2_with fail; go_meet; exact ⟨by first | rfl | (rw [decide_eq_false (by omega)]), by go_grown⟩)
  case rest =>
  as_aux_lemma =>
  obtain ⟨rfl, hb2⟩ := hcut
  have A2 := Lib.hid (A1.out.below hb2)
  replace HW := Lib.hid (And.intro (final_below HW hb2) (Nat.le_trans HW.out.2 hb2.size))
  clear A1 hb2
  go_upto_if 32 with fail
  go_cut [12] (fun t wx => Below wc.heap.size wc wx)
  case first =>
    as_aux_lemma =>
    rcases HB.out with ⟨rfl, c0, c1, c2, c3⟩ | ⟨rfl, -⟩
    · have hd := fun W => Head_calls wb q W
      rw [show HeadV wb q = foundV 1048576 (leastH wb q) from if_pos ⟨⟨c0, c1⟩, c2, c3⟩] at hd
      have hE := head_edge wb q c1
      generalize leastH wb q = r at *
      have wf : ∀ (i : Int), 0 ≤ i → i ≤ 1048576 → ∀ W, Calls Try.prog 12 #[.int .i64 wb, .int .i64 i] W fun e w' => e = .returned (.tuple #[.int .i64 (flowV (wq wb i)).1, .int .i64 (flowV (wq wb i)).2]) ∧ Below W.heap.size W w' :=
        fun i h0 h1 W => WeirV_in c0 c1 h0 h1 ▸ Weir_calls wb i W
      have ef : ∀ (x : Int) (W : World), W.cell? ⟨w.heap.size + 1, 0, none⟩ = some (.int .i64 q) → Calls Try.prog 27 #[.int .i64 (flowV x).1, .int .i64 (flowV x).2, .pointer (some ⟨w.heap.size + 1, 0, none⟩)] W fun e w' => e = .returned (.bool (decide (q ≤ x))) ∧ Below W.heap.size W w' :=
        fun x W h => enough_flow q x c3 ▸ Enough_closure q _ _ _ W h
      obtain ⟨-, fq, -⟩ := A2.out
      have D := Lib.hid hd
      by_cases cr : 1048576 < (r : Int)
      · have e1 := ef (wq wb 1048576)
        have w1' := wf 1048576 (by omega) (by omega)
        rw [decide_eq_false (by
          have := hE.2.1 1048576 (by omega)
          unfold headP at this
          rw [decide_eq_false_iff_not] at this
          exact this)] at e1
        rw [found_no cr] at hd
        clear D
        have D := Lib.hid hd
        generalize flowV (wq wb 1048576) = x at *
        obtain ⟨xa, xe⟩ := x
        have W1 := Lib.hid w1'
        have E1 := Lib.hid e1
        clear w1' e1 ef wf hE hd cr c0 c1 c2 c3
        go_wp2_with fail
        refine (D.out _).mono ?_
        rintro e w2 ⟨rfl, hb3⟩
        go_wp2_with fail
        refine (W1.out _).mono ?_
        rintro e w3 ⟨rfl, hb4⟩
        have A3 := Lib.hid ((A2.out.below hb3).below hb4)
        go_wp2_with fail
        refine (E1.out _ A3.out.c).mono ?_
        rintro e w4 ⟨rfl, hb5⟩
        go_wp2_with fail
        go_meet
        exact below_then (below_then hb3 hb4) hb5
      · have e1 := ef (wq wb r)
        have w1' := wf r (by omega) (by omega)
        rw [decide_eq_true (by
          have := hE.2.2 r (Nat.le_refl _) (by omega)
          unfold headP at this
          rw [decide_eq_true_eq] at this
          exact this)] at e1
        rw [found_ok cr] at hd
        clear D
        have D := Lib.hid hd
        have r0 : ¬ (r : Int) < 0 := by omega
        generalize flowV (wq wb r) = x at *
        obtain ⟨xa, xe⟩ := x
        have W1 := Lib.hid w1'
        have E1 := Lib.hid e1
        by_cases rz : 0 < (r : Int)
        · have e2 := ef (wq wb (r - 1))
          have w2' := wf (r - 1) (by omega) (by omega)
          rw [decide_eq_false (by
            have := hE.2.1 (r - 1) (by omega)
            unfold headP at this
            rw [decide_eq_false_iff_not, show ((r - 1 : Nat) : Int) = (r : Int) - 1 from by omega] at this
            exact this)] at e2
          generalize flowV (wq wb (r - 1)) = y at *
          obtain ⟨ya, ye⟩ := y
          have W2 := Lib.hid w2'
          have E2 := Lib.hid e2
          clear w1' e1 w2' e2 ef wf hE hd c0 c1 c2 c3
          go_wp2_with fail
          refine (D.out _).mono ?_
          rintro e w2 ⟨rfl, hb3⟩
          go_wp2_with fail
          refine (W1.out _).mono ?_
          rintro e w3 ⟨rfl, hb4⟩
          have A3 := Lib.hid ((A2.out.below hb3).below hb4)
          go_wp2_with fail
          refine (E1.out _ A3.out.c).mono ?_
          rintro e w4 ⟨rfl, hb5⟩
          go_wp2_with fail
          refine (W2.out _).mono ?_
          rintro e w5 ⟨rfl, hb6⟩
          have A4 := Lib.hid ((A3.out.below hb5).below hb6)
          go_wp2_with fail
          refine (E2.out _ A4.out.c).mono ?_
          rintro e w6 ⟨rfl, hb7⟩
          go_wp2_with fail
          go_meet
          exact below_then (below_then (below_then (below_then hb3 hb4) hb5) hb6) hb7
        · clear w1' e1 ef wf hE hd c0 c1 c2 c3
          go_wp2_with fail
          refine (D.out _).mono ?_
          rintro e w2 ⟨rfl, hb3⟩
          go_wp2_with fail
          refine (W1.out _).mono ?_
          rintro e w3 ⟨rfl, hb4⟩
          have A3 := Lib.hid ((A2.out.below hb3).below hb4)
          go_wp2_with fail
          refine (E1.out _ A3.out.c).mono ?_
          rintro e w4 ⟨rfl, hb5⟩
          go_wp2_with fail
          go_meet
          exact below_then (below_then hb3 hb4) hb5
    · go_wp2_with fail
      go_meet
      exact Below.refl _ _
  case rest =>
  as_aux_lemma =>
  have A3 := Lib.hid (A2.out.below hcut)
  replace HW := Lib.hid (And.intro (final_below HW hcut) (Nat.le_trans HW.out.2 hcut.size))
  clear A2 HB hcut
  obtain ⟨b2, hb2'⟩ : ∃ b2 : Bool, (b2 = false ∧ isGateB kd up wd ht = true ∧ 0 ≤ q ∧ q ≤ 1099511627776 ∧ levelB a = true ∧ levelB b = true ∧ headV up a b ≤ 1048576) ∨ (b2 = true ∧ (isGateB kd up wd ht = false ∨ isGateB kd up wd ht = true ∧ (q < 0 ∨ 0 ≤ q ∧ (1099511627776 < q ∨ q ≤ 1099511627776 ∧ (levelB a = false ∨ levelB a = true ∧ (levelB b = false ∨ levelB b = true ∧ 1048576 < headV up a b)))))) := by
      cases isGateB kd up wd ht
      · exact ⟨true, .inr ⟨rfl, .inl rfl⟩⟩
      · cases levelB a
        · by_cases q0 : q < 0
          · exact ⟨true, .inr ⟨rfl, .inr ⟨rfl, .inl q0⟩⟩⟩
          · by_cases q1 : 1099511627776 < q
            · exact ⟨true, .inr ⟨rfl, .inr ⟨rfl, .inr ⟨by omega, .inl q1⟩⟩⟩⟩
            · exact ⟨true, .inr ⟨rfl, .inr ⟨rfl, .inr ⟨by omega, .inr ⟨by omega, .inl rfl⟩⟩⟩⟩⟩
        · by_cases q0 : q < 0
          · exact ⟨true, .inr ⟨rfl, .inr ⟨rfl, .inl q0⟩⟩⟩
          · by_cases q1 : 1099511627776 < q
            · exact ⟨true, .inr ⟨rfl, .inr ⟨rfl, .inr ⟨by omega, .inl q1⟩⟩⟩⟩
            · cases levelB b
              · exact ⟨true, .inr ⟨rfl, .inr ⟨rfl, .inr ⟨by omega, .inr ⟨by omega, .inr ⟨rfl, .inl rfl⟩⟩⟩⟩⟩⟩
              · by_cases hh : 1048576 < headV up a b
                · exact ⟨true, .inr ⟨rfl, .inr ⟨rfl, .inr ⟨by omega, .inr ⟨by omega, .inr ⟨rfl, .inr ⟨rfl, hh⟩⟩⟩⟩⟩⟩⟩
                · exact ⟨false, .inl ⟨rfl, rfl, by omega, by omega, rfl, rfl, by omega⟩⟩
  have HB2 := Lib.hid hb2'
  clear hb2'
  go_upto_region 11 with fail
  go_cut [112] (fun t wx => t = .bool b2 ∧ Box2 wx w.heap.size q n0 n1 n2 sc kd ln up dn wd ht ca cn cc ∧ Below wc.heap.size wc wx)
  case first =>
    as_aux_lemma =>
    obtain ⟨⟨f0, f1, f2, f3, f4, f5, f6, f7, f8, f9, f10, fl⟩, fq, fz⟩ := A3.out
    have ig := fun W => IsGate_ref n0 n1 n2 sc kd ln up dn wd ht ca cn cc W
    have lu := fun W => Level_ref a W
    have ld := fun W => Level_ref b W
    rcases HB2.out with ⟨rfl, i1, i2, i3, i4, i5, i6⟩ | ⟨rfl, i1 | ⟨i1, i2 | ⟨i2, i3 | ⟨i3, i4 | ⟨i4, i5 | ⟨i5, i6⟩⟩⟩⟩⟩⟩
    · rw [i1] at ig
      have IG := Lib.hid ig
      rw [i4] at lu
      have LU := Lib.hid lu
      rw [i5] at ld
      have LD := Lib.hid ld
      have pp := isGateB_parts _ _ _ _ i1
      have pa := levelB_range i4
      have pb := levelB_range i5
      have pu := levelB_range pp.2.1
      have bt := fun W => Between_ref n0 n1 n2 sc kd ln up dn wd ht ca cn cc a b pu.1 pu.2 pa.1 pa.2 pb.1 pb.2 W
      generalize headV up a b = h at *
      have BT := Lib.hid bt
      clear ig lu ld i1 i4 i5 pp pa pb pu bt HB2
      go_wp2_with fail
      refine (IG.out _).mono ?_
      rintro e v ⟨rfl, rfl⟩
      go_wp2_with fail
      refine (LU.out _).mono ?_
      rintro e v ⟨rfl, rfl⟩
      go_wp2_with fail
      refine (LD.out _).mono ?_
      rintro e v ⟨rfl, rfl⟩
      go_wp2_with fail
      refine (BT.out _).mono ?_
      rintro e v ⟨rfl, rfl⟩
      go_wp2_with fail
      go_meet
      refine ⟨by first | rfl | exact congrArg Value.bool (by simp only [Bool.or_eq_false_iff, decide_eq_false_iff_not]; omega) | exact congrArg Value.bool (by simp only [Bool.or_eq_true, decide_eq_true_eq]; omega), A3.out.below (by go_grown), by go_grown⟩
    · rw [i1] at ig
      have IG := Lib.hid ig
      clear ig lu ld i1 HB2
      go_wp2_with fail
      refine (IG.out _).mono ?_
      rintro e v ⟨rfl, rfl⟩
      go_wp2_with fail
      go_meet
      refine ⟨by first | rfl | exact congrArg Value.bool (by simp only [Bool.or_eq_false_iff, decide_eq_false_iff_not]; omega) | exact congrArg Value.bool (by simp only [Bool.or_eq_true, decide_eq_true_eq]; omega), A3.out.below (by go_grown), by go_grown⟩
    · rw [i1] at ig
      have IG := Lib.hid ig
      clear ig lu ld i1 HB2
      go_wp2_with fail
      refine (IG.out _).mono ?_
      rintro e v ⟨rfl, rfl⟩
      go_wp2_with fail
      go_meet
      refine ⟨by first | rfl | exact congrArg Value.bool (by simp only [Bool.or_eq_false_iff, decide_eq_false_iff_not]; omega) | exact congrArg Value.bool (by simp only [Bool.or_eq_true, decide_eq_true_eq]; omega), A3.out.below (by go_grown), by go_grown⟩
    · rw [i1] at ig
      have IG := Lib.hid ig
      clear ig lu ld i1 HB2
      go_wp2_with fail
      refine (IG.out _).mono ?_
      rintro e v ⟨rfl, rfl⟩
      go_wp2_with fail
      go_meet
      refine ⟨by first | rfl | exact congrArg Value.bool (by simp only [Bool.or_eq_false_iff, decide_eq_false_iff_not]; omega) | exact congrArg Value.bool (by simp only [Bool.or_eq_true, decide_eq_true_eq]; omega), A3.out.below (by go_grown), by go_grown⟩
    · rw [i1] at ig
      have IG := Lib.hid ig
      rw [i4] at lu
      have LU := Lib.hid lu
      clear ig lu ld i1 i4 HB2
      go_wp2_with fail
      refine (IG.out _).mono ?_
      rintro e v ⟨rfl, rfl⟩
      go_wp2_with fail
      refine (LU.out _).mono ?_
      rintro e v ⟨rfl, rfl⟩
      go_wp2_with fail
      go_meet
      refine ⟨by first | rfl | exact congrArg Value.bool (by simp only [Bool.or_eq_false_iff, decide_eq_false_iff_not]; omega) | exact congrArg Value.bool (by simp only [Bool.or_eq_true, decide_eq_true_eq]; omega), A3.out.below (by go_grown), by go_grown⟩
    · rw [i1] at ig
      have IG := Lib.hid ig
      rw [i4] at lu
      have LU := Lib.hid lu
      rw [i5] at ld
      have LD := Lib.hid ld
      clear ig lu ld i1 i4 i5 HB2
      go_wp2_with fail
      refine (IG.out _).mono ?_
      rintro e v ⟨rfl, rfl⟩
      go_wp2_with fail
      refine (LU.out _).mono ?_
      rintro e v ⟨rfl, rfl⟩
      go_wp2_with fail
      refine (LD.out _).mono ?_
      rintro e v ⟨rfl, rfl⟩
      go_wp2_with fail
      go_meet
      refine ⟨by first | rfl | exact congrArg Value.bool (by simp only [Bool.or_eq_false_iff, decide_eq_false_iff_not]; omega) | exact congrArg Value.bool (by simp only [Bool.or_eq_true, decide_eq_true_eq]; omega), A3.out.below (by go_grown), by go_grown⟩
    · rw [i1] at ig
      have IG := Lib.hid ig
      rw [i4] at lu
      have LU := Lib.hid lu
      rw [i5] at ld
      have LD := Lib.hid ld
      have pp := isGateB_parts _ _ _ _ i1
      have pa := levelB_range i4
      have pb := levelB_range i5
      have pu := levelB_range pp.2.1
      have bt := fun W => Between_ref n0 n1 n2 sc kd ln up dn wd ht ca cn cc a b pu.1 pu.2 pa.1 pa.2 pb.1 pb.2 W
      generalize headV up a b = h at *
      have BT := Lib.hid bt
      clear ig lu ld i1 i4 i5 pp pa pb pu bt HB2
      go_wp2_with fail
      refine (IG.out _).mono ?_
      rintro e v ⟨rfl, rfl⟩
      go_wp2_with fail
      refine (LU.out _).mono ?_
      rintro e v ⟨rfl, rfl⟩
      go_wp2_with fail
      refine (LD.out _).mono ?_
      rintro e v ⟨rfl, rfl⟩
      go_wp2_with fail
      refine (BT.out _).mono ?_
      rintro e v ⟨rfl, rfl⟩
      go_wp2_with fail
      go_meet
      refine ⟨by first | rfl | exact congrArg Value.bool (by simp only [Bool.or_eq_false_iff, decide_eq_false_iff_not]; omega) | exact congrArg Value.bool (by simp only [Bool.or_eq_true, decide_eq_true_eq]; omega), A3.out.below (by go_grown), by go_grown⟩
  case rest =>
  as_aux_lemma =>
  obtain ⟨rfl, a4, hb4⟩ := hcut
  have A4 := Lib.hid a4
  clear A3 a4
  rcases HB2.out with ⟨rfl, i1, i2, i3, i4, i5, i6⟩ | ⟨rfl, -⟩
  · obtain ⟨p1, p2, p3, p4, p5, p6⟩ := isGateB_parts _ _ _ _ i1
    obtain ⟨h, hh⟩ : ∃ h, headV up a b = h := ⟨_, rfl⟩
    have h0 := headV_nonneg up a b
    rw [hh] at h0 i6
    have ho := fun W => OpeningV_in i1 i2 i3 i4 i5 hh i6 ▸ Opening_calls n0 n1 n2 sc kd ln up dn wd ht ca cn cc q a b W
    have gf : ∀ (i : Int), 0 ≤ i → i ≤ 1000 → ∀ W, Calls Try.prog 16 #[.agg #[.string n0, .string n1, .string n2, .int .i64 kd, .int .i64 ln, .int .i64 up, .int .i64 dn, .string sc, .int .i64 wd, .int .i64 ht, .slice ca cn cc], .int .i64 i, .int .i64 a, .int .i64 b] W fun e w' => e = .returned (.tuple #[.int .i64 (flowV (oq (gateA wd ht i h) h)).1, .int .i64 (flowV (oq (gateA wd ht i h) h)).2]) ∧ Below W.heap.size W w' :=
      fun i k0 k1 W => GateV_op i1 k0 k1 i4 i5 hh (by omega) ▸ Gate_calls n0 n1 n2 sc kd ln up dn wd ht ca cn cc i a b W
    have ef : ∀ (x : Int) (W : World), W.cell? ⟨w.heap.size + 1, 0, none⟩ = some (.int .i64 q) → Calls Try.prog 27 #[.int .i64 (flowV x).1, .int .i64 (flowV x).2, .pointer (some ⟨w.heap.size + 1, 0, none⟩)] W fun e w' => e = .returned (.bool (decide (q ≤ x))) ∧ Below W.heap.size W w' :=
      fun x W h => enough_flow q x i3 ▸ Enough_closure q _ _ _ W h
    have hE := gate_edge wd ht q h p3 p4 p5 p6 h0 i6
    generalize leastS wd ht q h = s at *
    obtain ⟨⟨f0, f1, f2, f3, f4, f5, f6, f7, f8, f9, f10, fl⟩, fq, fz⟩ := A4.out
    by_cases cs : 1000 < (s : Int)
    · rw [found_no cs] at ho
      have e1 := ef (oq (gateA wd ht 1000 h) h)
      have g1 := gf 1000 (by omega) (by omega)
      rw [decide_eq_false (by
        have := hE.2.1 1000 (by omega)
        unfold gateP at this
        rw [decide_eq_false_iff_not] at this
        exact this)] at e1
      generalize flowV (oq (gateA wd ht 1000 h) h) = x at *
      obtain ⟨xa, xe⟩ := x
      have O := Lib.hid ho
      have G1 := Lib.hid g1
      have E1 := Lib.hid e1
      clear e1 g1 cs
      clear ef gf hE ho i1 i2 i3 i4 i5 i6 p1 p2 p3 p4 p5 p6 hh h0 HB2
      go_wp2_with fail
      refine (O.out _).mono ?_
      rintro e w5 ⟨rfl, hb5⟩
      have A5 := Lib.hid (A4.out.below hb5)
      clear f0 f1 f2 f3 f4 f5 f6 f7 f8 f9 f10 fl fq fz
      obtain ⟨⟨f0, f1, f2, f3, f4, f5, f6, f7, f8, f9, f10, fl⟩, fq, fz⟩ := A5.out
      go_wp2_with fail
      refine (G1.out _).mono ?_
      rintro e w6 ⟨rfl, hb6⟩
      have A6 := Lib.hid (A5.out.below hb6)
      clear f0 f1 f2 f3 f4 f5 f6 f7 f8 f9 f10 fl fq fz
      obtain ⟨⟨f0, f1, f2, f3, f4, f5, f6, f7, f8, f9, f10, fl⟩, fq, fz⟩ := A6.out
      go_wp2_with fail
      refine (E1.out _ A6.out.c).mono ?_
      rintro e w7 ⟨rfl, hb7⟩
      have A7 := Lib.hid (A6.out.below hb7)
      clear f0 f1 f2 f3 f4 f5 f6 f7 f8 f9 f10 fl fq fz
      obtain ⟨⟨f0, f1, f2, f3, f4, f5, f6, f7, f8, f9, f10, fl⟩, fq, fz⟩ := A7.out
      go_wp2_with fail
      go_returns
      exact ⟨rfl, final_below HW (below_then (below_then (below_then hb4 hb5) hb6) hb7)⟩
    · rw [found_ok cs] at ho
      have e1 := ef (oq (gateA wd ht s h) h)
      have g1 := gf s (by omega) (by omega)
      rw [decide_eq_true (by
        have := hE.2.2 s (Nat.le_refl _) (by omega)
        unfold gateP at this
        rw [decide_eq_true_eq] at this
        exact this)] at e1
      generalize flowV (oq (gateA wd ht s h) h) = x at *
      obtain ⟨xa, xe⟩ := x
      have O := Lib.hid ho
      have G1 := Lib.hid g1
      have E1 := Lib.hid e1
      have s0 : 0 ≤ (s : Int) := by omega
      by_cases cz : s = 0
      · subst cz
        clear e1 g1 cs s0
        clear ef gf hE ho i1 i2 i3 i4 i5 i6 p1 p2 p3 p4 p5 p6 hh h0 HB2
        go_wp2_with fail
        refine (O.out _).mono ?_
        rintro e w5 ⟨rfl, hb5⟩
        have A5 := Lib.hid (A4.out.below hb5)
        clear f0 f1 f2 f3 f4 f5 f6 f7 f8 f9 f10 fl fq fz
        obtain ⟨⟨f0, f1, f2, f3, f4, f5, f6, f7, f8, f9, f10, fl⟩, fq, fz⟩ := A5.out
        go_wp2_with fail
        refine (G1.out _).mono ?_
        rintro e w6 ⟨rfl, hb6⟩
        have A6 := Lib.hid (A5.out.below hb6)
        clear f0 f1 f2 f3 f4 f5 f6 f7 f8 f9 f10 fl fq fz
        obtain ⟨⟨f0, f1, f2, f3, f4, f5, f6, f7, f8, f9, f10, fl⟩, fq, fz⟩ := A6.out
        go_wp2_with fail
        refine (E1.out _ A6.out.c).mono ?_
        rintro e w7 ⟨rfl, hb7⟩
        have A7 := Lib.hid (A6.out.below hb7)
        clear f0 f1 f2 f3 f4 f5 f6 f7 f8 f9 f10 fl fq fz
        obtain ⟨⟨f0, f1, f2, f3, f4, f5, f6, f7, f8, f9, f10, fl⟩, fq, fz⟩ := A7.out
        go_wp2_with fail
        go_returns
        exact ⟨rfl, final_below HW (below_then (below_then (below_then hb4 hb5) hb6) hb7)⟩
      · have e2 := ef (oq (gateA wd ht (s - 1) h) h)
        have g2 := gf (s - 1) (by omega) (by omega)
        rw [decide_eq_false (by
          have := hE.2.1 (s - 1) (by omega)
          unfold gateP at this
          rw [decide_eq_false_iff_not, show ((s - 1 : Nat) : Int) = (s : Int) - 1 from by omega] at this
          exact this)] at e2
        generalize flowV (oq (gateA wd ht (s - 1) h) h) = y at *
        obtain ⟨ya, ye⟩ := y
        have G2 := Lib.hid g2
        have E2 := Lib.hid e2
        have cz' : ((s : Int) == 0) = false := by rw [beq_eq_false_iff_ne]; omega
        have cz2 : ¬ (s : Int) = 0 := by omega
        clear e1 g1 e2 g2 cz
        clear ef gf hE ho i1 i2 i3 i4 i5 i6 p1 p2 p3 p4 p5 p6 hh h0 HB2
        go_wp2_with fail
        refine (O.out _).mono ?_
        rintro e w5 ⟨rfl, hb5⟩
        have A5 := Lib.hid (A4.out.below hb5)
        clear f0 f1 f2 f3 f4 f5 f6 f7 f8 f9 f10 fl fq fz
        obtain ⟨⟨f0, f1, f2, f3, f4, f5, f6, f7, f8, f9, f10, fl⟩, fq, fz⟩ := A5.out
        go_wp2_with fail
        refine (G1.out _).mono ?_
        rintro e w6 ⟨rfl, hb6⟩
        have A6 := Lib.hid (A5.out.below hb6)
        clear f0 f1 f2 f3 f4 f5 f6 f7 f8 f9 f10 fl fq fz
        obtain ⟨⟨f0, f1, f2, f3, f4, f5, f6, f7, f8, f9, f10, fl⟩, fq, fz⟩ := A6.out
        go_wp2_with fail
        refine (E1.out _ A6.out.c).mono ?_
        rintro e w7 ⟨rfl, hb7⟩
        have A7 := Lib.hid (A6.out.below hb7)
        clear f0 f1 f2 f3 f4 f5 f6 f7 f8 f9 f10 fl fq fz
        obtain ⟨⟨f0, f1, f2, f3, f4, f5, f6, f7, f8, f9, f10, fl⟩, fq, fz⟩ := A7.out
        go_wp2_with fail
        refine (G2.out _).mono ?_
        rintro e w8 ⟨rfl, hb8⟩
        have A8 := Lib.hid (A7.out.below hb8)
        clear f0 f1 f2 f3 f4 f5 f6 f7 f8 f9 f10 fl fq fz
        obtain ⟨⟨f0, f1, f2, f3, f4, f5, f6, f7, f8, f9, f10, fl⟩, fq, fz⟩ := A8.out
        go_wp2_with fail
        refine (E2.out _ A8.out.c).mono ?_
        rintro e w9 ⟨rfl, hb9⟩
        have A9 := Lib.hid (A8.out.below hb9)
        clear f0 f1 f2 f3 f4 f5 f6 f7 f8 f9 f10 fl fq fz
        obtain ⟨⟨f0, f1, f2, f3, f4, f5, f6, f7, f8, f9, f10, fl⟩, fq, fz⟩ := A9.out
        go_wp2_with fail
        go_returns
        exact ⟨rfl, final_below HW (below_then (below_then (below_then (below_then (below_then hb4 hb5) hb6) hb7) hb8) hb9)⟩
  · go_wp2_with fail
    go_returns
    exact ⟨rfl, final_below HW hb4⟩
end Go.Proofs.Ytfalmbcnbomaoaa
