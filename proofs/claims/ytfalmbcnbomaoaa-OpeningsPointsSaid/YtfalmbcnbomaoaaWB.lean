/- Opening of both; the law OpeningsNeeds returns true -/
import Derived.Test.YtfalmbcnbomaoaaWA
namespace Go.Proofs.Ytfalmbcnbomaoaa
open Go.Proofs.Ytfalmbcnbomaoaa.DivLaw Go.Proofs.Ytfalmbcnbomaoaa.Open Go.RowKit
set_option linter.unusedVariables false

/-- The least setting with a flow, as the program returns it. -/
def OpeningV (kd up wd ht q a b : Int) : Int × Int :=
  if isGateB kd up wd ht = true then
    if (0 ≤ q ∧ q ≤ 1099511627776) ∧ levelB a = true ∧ levelB b = true then
      if 1048576 < headV up a b then (0, 5) else foundV 1000 (leastS wd ht q (headV up a b))
    else (0, 2)
  else (0, 1)

theorem Opening_search (n0 n1 n2 sc : ByteArray) (kd ln up dn wd ht : Int) (ca : Option Addr) (cn cc : Nat) (q h : Int) (b1 b2 b3 : Nat) (h1 : 1 ≤ wd) (h2 : wd ≤ 32768) (h3 : 1 ≤ ht) (h4 : ht ≤ 32768) (h7 : 0 ≤ h) (h8 : h ≤ 1048576) (r : Nat) (hr : r = leastS wd ht q h) (w : World) (l2 : b2 < w.heap.size) (l3 : b3 < w.heap.size)
    (A : AtL w b1 n0 n1 n2 sc kd ln up dn wd ht ca cn cc) (c2 : w.cell? ⟨b2, 0, none⟩ = some (.int .i64 h)) (c3 : w.cell? ⟨b3, 0, none⟩ = some (.int .i64 q)) :
    Calls Try.prog 48 #[.int .i64 1001, .func (.func 50) #[] #[.pointer (some ⟨b1, 0, none⟩), .pointer (some ⟨b2, 0, none⟩), .pointer (some ⟨b3, 0, none⟩)]] w fun e w' => e = .returned (.int .i64 r) ∧ Below w.heap.size w w' := by
  rw [hr]
  exact Search_gate 1001 (leastS wd ht q h) (gateP wd ht q h) b1 b2 b3 (by omega) (gate_edge wd ht q h h1 h2 h3 h4 h7 h8) w
    fun W hW i hi => Opening_closure n0 n1 n2 sc kd ln up dn wd ht ca cn cc q h i b1 b2 b3 h1 h2 h3 h4 (by omega) (by omega) h7 h8 W (Nat.lt_of_lt_of_le l2 hW.size) (Nat.lt_of_lt_of_le l3 hW.size) (A.below hW) ((hW.cell (p := ⟨b2, 0, none⟩) l2).trans c2) ((hW.cell (p := ⟨b3, 0, none⟩) l3).trans c3)

set_option maxHeartbeats 4000000 in
theorem Opening_calls (n0 n1 n2 sc : ByteArray) (kd ln up dn wd ht : Int) (ca : Option Addr) (cn cc : Nat) (q a b : Int) (w : World) :
    Calls Try.prog 25 #[.agg #[.string n0, .string n1, .string n2, .int .i64 kd, .int .i64 ln, .int .i64 up, .int .i64 dn, .string sc, .int .i64 wd, .int .i64 ht, .slice ca cn cc], .int .i64 q, .int .i64 a, .int .i64 b] w fun e w' => e = .returned (.tuple #[.int .i64 (OpeningV kd up wd ht q a b).1, .int .i64 (OpeningV kd up wd ht q a b).2]) ∧ Below w.heap.size w w' := by
  have g := fun W => isGate_calls n0 n1 n2 sc kd ln up dn wd ht ca cn cc W
  unfold OpeningV
  cases hg : isGateB kd up wd ht
  · rw [if_neg (by decide)]
    rw [hg] at g
    have G := Lib.hid g
    clear g hg
    go_enter Try.func25, Try.ntmps25
    go_wp2_with fail
    refine (G.out _).mono ?_
    rintro e w1 ⟨rfl, rfl⟩
    go_wp2_with fail
    go_returns
    exact ⟨rfl, by go_grown⟩
  · rw [if_pos rfl]
    rw [hg] at g
    obtain ⟨p1, p2, p3, p4, p5, p6⟩ := isGateB_parts _ _ _ _ hg
    have G := Lib.hid g
    clear g hg p1
    by_cases cs : 0 ≤ q ∧ q ≤ 1099511627776
    · have d := fun W => within_yes q 0 1099511627776 W cs.1 cs.2
      have D := Lib.hid d
      clear d
      have lu := fun W => level_calls a W
      have ld := fun W => level_calls b W
      cases ha : levelB a
      · rw [if_neg (by simp)]
        rw [ha] at lu
        have LU := Lib.hid lu
        clear lu ld ha cs p2 p3 p4 p5 p6
        go_enter Try.func25, Try.ntmps25
        go_wp2_with fail
        refine (G.out _).mono ?_
        rintro e w1 ⟨rfl, rfl⟩
        go_wp2_with fail
        refine (D.out _).mono ?_
        rintro e w1 ⟨rfl, rfl⟩
        go_wp2_with fail
        refine (LU.out _).mono ?_
        rintro e w1 ⟨rfl, rfl⟩
        go_wp2_with fail
        go_returns
        exact ⟨rfl, by go_grown⟩
      · cases hb : levelB b
        · rw [if_neg (by simp)]
          rw [ha] at lu
          rw [hb] at ld
          have LU := Lib.hid lu
          have LD := Lib.hid ld
          clear lu ld ha hb cs p2 p3 p4 p5 p6
          go_enter Try.func25, Try.ntmps25
          go_wp2_with fail
          refine (G.out _).mono ?_
          rintro e w1 ⟨rfl, rfl⟩
          go_wp2_with fail
          refine (D.out _).mono ?_
          rintro e w1 ⟨rfl, rfl⟩
          go_wp2_with fail
          refine (LU.out _).mono ?_
          rintro e w1 ⟨rfl, rfl⟩
          go_wp2_with fail
          refine (LD.out _).mono ?_
          rintro e w1 ⟨rfl, rfl⟩
          go_wp2_with fail
          go_returns
          exact ⟨rfl, by go_grown⟩
        · rw [if_pos ⟨cs, rfl, rfl⟩]
          have pa := levelB_range ha
          have pb := levelB_range hb
          have pu := levelB_range p2
          have hd := fun W => head_calls n0 n1 n2 sc kd ln up dn wd ht ca cn cc a b pu.1 pu.2 pa.1 pa.2 pb.1 pb.2 W
          have h0 := headV_nonneg up a b
          rw [ha] at lu
          rw [hb] at ld
          have LU := Lib.hid lu
          have LD := Lib.hid ld
          have HD := Lib.hid hd
          generalize headV up a b = h at *
          by_cases hc : 1048576 < h
          · rw [if_pos hc]
            clear lu ld ha hb cs p2 p3 p4 p5 p6 pa pb pu hd h0
            go_enter Try.func25, Try.ntmps25
            go_wp2_with fail
            refine (G.out _).mono ?_
            rintro e w1 ⟨rfl, rfl⟩
            go_wp2_with fail
            refine (D.out _).mono ?_
            rintro e w1 ⟨rfl, rfl⟩
            go_wp2_with fail
            refine (LU.out _).mono ?_
            rintro e w1 ⟨rfl, rfl⟩
            go_wp2_with fail
            refine (LD.out _).mono ?_
            rintro e w1 ⟨rfl, rfl⟩
            go_wp2_with fail
            refine (HD.out _).mono ?_
            rintro e w1 ⟨rfl, rfl⟩
            go_wp2_with fail
            go_returns
            exact ⟨rfl, by go_grown⟩
          · rw [if_neg hc]
            obtain ⟨r, hr⟩ : ∃ r, r = leastS wd ht q h := ⟨_, rfl⟩
            rw [← hr]
            have s := fun b1 b2 b3 => Opening_search n0 n1 n2 sc kd ln up dn wd ht ca cn cc q h b1 b2 b3 p3 p4 p5 p6 h0 (by omega) r hr
            have S := Lib.hid s
            clear s lu ld ha hb cs p2 p3 p4 p5 p6 pa pb pu hd h0 hr
            by_cases cr : 1000 < (r : Int)
            · rw [found_no cr]
              go_enter Try.func25, Try.ntmps25
              go_wp2_with fail
              refine (G.out _).mono ?_
              rintro e w1 ⟨rfl, rfl⟩
              go_wp2_with fail
              refine (D.out _).mono ?_
              rintro e w1 ⟨rfl, rfl⟩
              go_wp2_with fail
              refine (LU.out _).mono ?_
              rintro e w1 ⟨rfl, rfl⟩
              go_wp2_with fail
              refine (LD.out _).mono ?_
              rintro e w1 ⟨rfl, rfl⟩
              go_wp2_with fail
              refine (HD.out _).mono ?_
              rintro e w1 ⟨rfl, rfl⟩
              go_wp2_with fail
              have A := AtL.new_ n0 n1 n2 sc kd ln up dn wd ht ca cn cc w
              refine (S.out _ _ _ _ (by simp) (by simp; try omega) ((((A.alloc _).alloc _).alloc _).alloc _) (by go_simp) (by go_simp)).mono ?_
              rintro e w2 ⟨rfl, hb2⟩
              go_wp2_with fail
              go_returns
              exact ⟨rfl, Below.trans (by go_grown) (hb2.mono (by simp; try omega))⟩
            · rw [found_ok cr]
              go_enter Try.func25, Try.ntmps25
              go_wp2_with fail
              refine (G.out _).mono ?_
              rintro e w1 ⟨rfl, rfl⟩
              go_wp2_with fail
              refine (D.out _).mono ?_
              rintro e w1 ⟨rfl, rfl⟩
              go_wp2_with fail
              refine (LU.out _).mono ?_
              rintro e w1 ⟨rfl, rfl⟩
              go_wp2_with fail
              refine (LD.out _).mono ?_
              rintro e w1 ⟨rfl, rfl⟩
              go_wp2_with fail
              refine (HD.out _).mono ?_
              rintro e w1 ⟨rfl, rfl⟩
              go_wp2_with fail
              have A := AtL.new_ n0 n1 n2 sc kd ln up dn wd ht ca cn cc w
              refine (S.out _ _ _ _ (by simp) (by simp; try omega) ((((A.alloc _).alloc _).alloc _).alloc _) (by go_simp) (by go_simp)).mono ?_
              rintro e w2 ⟨rfl, hb2⟩
              go_wp2_with fail
              go_returns
              exact ⟨rfl, Below.trans (by go_grown) (hb2.mono (by simp; try omega))⟩
    · rw [if_neg (fun h => cs h.1)]
      have d := fun W => within_no q 0 1099511627776 W cs
      have D := Lib.hid d
      clear d cs p2 p3 p4 p5 p6
      go_enter Try.func25, Try.ntmps25
      go_wp2_with fail
      refine (G.out _).mono ?_
      rintro e w1 ⟨rfl, rfl⟩
      go_wp2_with fail
      refine (D.out _).mono ?_
      rintro e w1 ⟨rfl, rfl⟩
      go_wp2_with fail
      go_returns
      exact ⟨rfl, by go_grown⟩

theorem GateV_op {kd up wd ht s a b h : Int} (hg : isGateB kd up wd ht = true) (h1 : 0 ≤ s) (h2 : s ≤ 1000) (ha : levelB a = true) (hb : levelB b = true) (hh : headV up a b = h) (hc : ¬ 1048576 < h) :
    GateV kd up wd ht s a b = flowV (oq (gateA wd ht s h) h) := by
  unfold GateV
  rw [hh, if_pos hg, if_pos ⟨⟨h1, h2⟩, ha, hb⟩, if_neg hc]

set_option maxHeartbeats 4000000 in
theorem Opening_ref (n0 n1 n2 sc : ByteArray) (kd ln up dn wd ht : Int) (ca : Option Addr) (cn cc : Nat) (q a b : Int) (w : World) :
    Calls Try.prog 26 #[.agg #[.string n0, .string n1, .string n2, .int .i64 kd, .int .i64 ln, .int .i64 up, .int .i64 dn, .string sc, .int .i64 wd, .int .i64 ht, .slice ca cn cc], .int .i64 q, .int .i64 a, .int .i64 b] w fun e w' => e = .returned (.tuple #[.int .i64 (OpeningV kd up wd ht q a b).1, .int .i64 (OpeningV kd up wd ht q a b).2]) ∧ Below w.heap.size w w' := by
  have g := fun W => IsGate_ref n0 n1 n2 sc kd ln up dn wd ht ca cn cc W
  unfold OpeningV
  cases hg : isGateB kd up wd ht
  · rw [if_neg (by decide)]
    rw [hg] at g
    have G := Lib.hid g
    clear g hg
    go_enter Try.func26, Try.ntmps26
    go_wp2_with fail
    refine (G.out _).mono ?_
    rintro e w1 ⟨rfl, rfl⟩
    go_wp2_with fail
    go_returns
    exact ⟨rfl, by go_grown⟩
  · rw [if_pos rfl]
    rw [hg] at g
    obtain ⟨p1, p2, p3, p4, p5, p6⟩ := isGateB_parts _ _ _ _ hg
    have G := Lib.hid g
    by_cases cs0 : q < 0
    · rw [if_neg (by omega)]
      clear g hg p1 p2 p3 p4 p5 p6
      go_enter Try.func26, Try.ntmps26
      go_wp2_with fail
      refine (G.out _).mono ?_
      rintro e w1 ⟨rfl, rfl⟩
      go_wp2_with fail
      go_returns
      exact ⟨rfl, by go_grown⟩
    · by_cases cs1 : 1099511627776 < q
      · rw [if_neg (by omega)]
        clear g hg p1 p2 p3 p4 p5 p6
        go_enter Try.func26, Try.ntmps26
        go_wp2_with fail
        refine (G.out _).mono ?_
        rintro e w1 ⟨rfl, rfl⟩
        go_wp2_with fail
        go_returns
        exact ⟨rfl, by go_grown⟩
      · have lu := fun W => Level_ref a W
        have ld := fun W => Level_ref b W
        cases ha : levelB a
        · rw [if_neg (by simp)]
          rw [ha] at lu
          have LU := Lib.hid lu
          clear g hg lu ld ha p1 p2 p3 p4 p5 p6
          go_enter Try.func26, Try.ntmps26
          go_wp2_with fail
          refine (G.out _).mono ?_
          rintro e w1 ⟨rfl, rfl⟩
          go_wp2_with fail
          refine (LU.out _).mono ?_
          rintro e w1 ⟨rfl, rfl⟩
          go_wp2_with fail
          go_returns
          exact ⟨rfl, by go_grown⟩
        · cases hb : levelB b
          · rw [if_neg (by simp)]
            rw [ha] at lu
            rw [hb] at ld
            have LU := Lib.hid lu
            have LD := Lib.hid ld
            clear g hg lu ld ha hb p1 p2 p3 p4 p5 p6
            go_enter Try.func26, Try.ntmps26
            go_wp2_with fail
            refine (G.out _).mono ?_
            rintro e w1 ⟨rfl, rfl⟩
            go_wp2_with fail
            refine (LU.out _).mono ?_
            rintro e w1 ⟨rfl, rfl⟩
            go_wp2_with fail
            refine (LD.out _).mono ?_
            rintro e w1 ⟨rfl, rfl⟩
            go_wp2_with fail
            go_returns
            exact ⟨rfl, by go_grown⟩
          · rw [if_pos ⟨by omega, rfl, rfl⟩]
            have pa := levelB_range ha
            have pb := levelB_range hb
            have pu := levelB_range p2
            have hd := fun W => Between_ref n0 n1 n2 sc kd ln up dn wd ht ca cn cc a b pu.1 pu.2 pa.1 pa.2 pb.1 pb.2 W
            have h0 := headV_nonneg up a b
            rw [ha] at lu
            rw [hb] at ld
            have LU := Lib.hid lu
            have LD := Lib.hid ld
            have HD := Lib.hid hd
            obtain ⟨h, hh⟩ : ∃ h, headV up a b = h := ⟨_, rfl⟩
            rw [hh] at HD h0 ⊢
            by_cases hc : 1048576 < h
            · rw [if_pos hc]
              clear g hg lu ld ha hb p1 p2 p3 p4 p5 p6 pa pb pu hd h0 hh
              go_enter Try.func26, Try.ntmps26
              go_wp2_with fail
              refine (G.out _).mono ?_
              rintro e w1 ⟨rfl, rfl⟩
              go_wp2_with fail
              refine (LU.out _).mono ?_
              rintro e w1 ⟨rfl, rfl⟩
              go_wp2_with fail
              refine (LD.out _).mono ?_
              rintro e w1 ⟨rfl, rfl⟩
              go_wp2_with fail
              refine (HD.out _).mono ?_
              rintro e w1 ⟨rfl, rfl⟩
              go_wp2_with fail
              go_returns
              exact ⟨rfl, by go_grown⟩
            · rw [if_neg hc]
              have gf := fun (s : Nat) (hs : (s : Int) ≤ 1000) W => (GateV_op hg (Int.natCast_nonneg s) hs ha hb hh hc) ▸ Gate_ref n0 n1 n2 sc kd ln up dn wd ht ca cn cc s a b W
              have GF := Lib.hid gf
              have hE := gate_edge wd ht q h p3 p4 p5 p6 h0 (by omega)
              generalize leastS wd ht q h = r at *
              have E := Lib.hid hE
              have HG := Lib.hid (show isGateB kd up wd ht = true from hg)
              have A := Lib.hid (AtL.new_ n0 n1 n2 sc kd ln up dn wd ht ca cn cc w)
              clear gf g hg lu ld ha hb p1 p2 p3 p4 p5 p6 pa pb pu hd hh hE
              go_enter Try.func26, Try.ntmps26
              go_wp2_with fail
              refine (G.out _).mono ?_
              rintro e w1 ⟨rfl, rfl⟩
              go_wp2_with fail
              refine (LU.out _).mono ?_
              rintro e w1 ⟨rfl, rfl⟩
              go_wp2_with fail
              refine (LD.out _).mono ?_
              rintro e w1 ⟨rfl, rfl⟩
              go_wp2_with fail
              refine (HD.out _).mono ?_
              rintro e w1 ⟨rfl, rfl⟩
              have A2 := Lib.hid ((A.out.alloc (.cells #[.string n0, .string n1, .string n2, .int .i64 kd, .int .i64 ln, .int .i64 up, .int .i64 dn, .string sc, .int .i64 wd, .int .i64 ht, .slice ca cn cc] 32)).alloc (.cells #[.string n0, .string n1, .string n2, .int .i64 kd, .int .i64 ln, .int .i64 up, .int .i64 dn, .string sc, .int .i64 wd, .int .i64 ht, .slice ca cn cc] 32))
              clear A
              go_wp2_with fail
              go_loopw [10] (fun s10 wr => ∃ t : Nat, s10 = .int .i64 t ∧ Hid (t ≤ r ∧ t ≤ 1001) ∧ Below (w.heap.size + 1 + 1 + 1) ((((w.alloc (.cells #[.string n0, .string n1, .string n2, .int .i64 kd, .int .i64 ln, .int .i64 up, .int .i64 dn, .string sc, .int .i64 wd, .int .i64 ht, .slice ca cn cc] 32)).alloc (.cells #[.string n0, .string n1, .string n2, .int .i64 kd, .int .i64 ln, .int .i64 up, .int .i64 dn, .string sc, .int .i64 wd, .int .i64 ht, .slice ca cn cc] 32)).alloc (.cells #[.string n0, .string n1, .string n2, .int .i64 kd, .int .i64 ln, .int .i64 up, .int .i64 dn, .string sc, .int .i64 wd, .int .i64 ht, .slice ca cn cc] 32))) wr) (fun s10 _ => 1001 - (intOf s10).toNat)
              case atStart => exact ⟨0, rfl, Lib.hid ⟨Nat.zero_le _, by omega⟩, Below.refl _ _⟩
              case round =>
                obtain ⟨t, rfl, hI, hbw⟩ := hrel
                have AW := Lib.hid (A2.out.below (by simpa using hbw))
                have hsz : w.heap.size + 1 + 1 + 1 ≤ wr.heap.size := by have := hbw.size; simp at this; omega
                by_cases c : (t : Int) ≤ 1000
                · obtain ⟨f0, f1, f2, f3, f4, f5, f6, f7, f8, f9, f10, fl⟩ := AW.out
                  have gc := GF.out t c
                  by_cases hp : q ≤ oq (gateA wd ht t h) h
                  · have hl : Hid (t = r) := Lib.hid (by
                      have := hI.out
                      rcases Nat.lt_or_ge t r with h' | h'
                      · have := E.out.2.1 t h'
                        unfold gateP at this
                        rw [decide_eq_false_iff_not] at this
                        exact absurd hp this
                      · omega)
                    by_cases hbig : 1099511627776 < oq (gateA wd ht t h) h
                    · rw [flowV_no hbig] at gc
                      have C := Lib.hid gc
                      clear gc
                      clear hbig hp
                      go_wp2_with fail
                      refine (C.out _).mono ?_
                      rintro e w1 ⟨rfl, hb1⟩
                      go_wp2_with fail
                      go_returns
                      exact ⟨by rw [found_ok (show ¬ (1000 : Int) < (r : Int) by have := hl.out; omega), ← hl.out]; rfl, Below.trans (by go_grown) ((hbw.trans (hb1.mono hsz)).mono (by omega))⟩
                    · rw [flowV_ok hbig] at gc
                      generalize oq (gateA wd ht t h) h = x at *
                      have C := Lib.hid gc
                      clear gc
                      clear hbig
                      go_wp2_with fail
                      refine (C.out _).mono ?_
                      rintro e w1 ⟨rfl, hb1⟩
                      go_wp2_with fail
                      go_returns
                      exact ⟨by rw [found_ok (show ¬ (1000 : Int) < (r : Int) by have := hl.out; omega), ← hl.out]; rfl, Below.trans (by go_grown) ((hbw.trans (hb1.mono hsz)).mono (by omega))⟩
                  · have hl : Hid (t < r) := Lib.hid (by
                      have := hI.out
                      rcases Nat.lt_or_ge t r with h' | h'
                      · exact h'
                      · have := E.out.2.2 t h' (by omega)
                        unfold gateP at this
                        rw [decide_eq_true_eq] at this
                        exact absurd this hp)
                    rw [flowV_ok (by omega)] at gc
                    generalize oq (gateA wd ht t h) h = x at *
                    have C := Lib.hid gc
                    clear gc
                    go_wp2_with fail
                    refine (C.out _).mono ?_
                    rintro e w1 ⟨rfl, hb1⟩
                    go_wp2_with fail
                    go_roundw
                    case rel => exact ⟨t + 1, by go_num, Lib.hid (by have := hI.out; have := hl.out; omega), hbw.trans (hb1.mono hsz)⟩
                    case measure => simp [intOf]; omega
                · have hl : Hid (t = 1001 ∧ r = 1001) := Lib.hid (by have := hI.out; have := E.out.1; omega)
                  go_wp2_with fail
                  go_returns
                  exact ⟨by rw [found_no (show (1000 : Int) < (r : Int) by have := hl.out; omega)]; rfl, Below.trans (by go_grown) (hbw.mono (by omega))⟩

set_option maxHeartbeats 4000000 in
theorem Needs_calls (n0 n1 n2 sc : ByteArray) (kd ln up dn wd ht : Int) (ca : Option Addr) (cn cc : Nat) (wb q a b : Int) (w : World) : Calls Try.prog 7 #[.agg #[.string n0, .string n1, .string n2, .int .i64 kd, .int .i64 ln, .int .i64 up, .int .i64 dn, .string sc, .int .i64 wd, .int .i64 ht, .slice ca cn cc], .int .i64 wb, .int .i64 q, .int .i64 a, .int .i64 b] w fun e w' => e = .returned (.bool true) ∧ Below w.heap.size w w' := by
  have c1 := fun W => Head_calls wb q W
  have c2 := fun W => Head_ref wb q W
  have c3 := fun W => Opening_calls n0 n1 n2 sc kd ln up dn wd ht ca cn cc q a b W
  have c4 := fun W => Opening_ref n0 n1 n2 sc kd ln up dn wd ht ca cn cc q a b W
  generalize HeadV wb q = x at *
  generalize OpeningV kd up wd ht q a b = y at *
  obtain ⟨x1, x2⟩ := x
  obtain ⟨y1, y2⟩ := y
  have C1 := Lib.hid c1
  have C2 := Lib.hid c2
  have C3 := Lib.hid c3
  have C4 := Lib.hid c4
  clear c1 c2 c3 c4
  have A0 := Lib.hid (AtL.new_ n0 n1 n2 sc kd ln up dn wd ht ca cn cc w)
  go_enter Try.func7, Try.ntmps7
  go_wp2_with fail
  refine (awake_calls _).mono ?_
  rintro e w1 ⟨rfl, hb1⟩
  have A1 := Lib.hid (A0.out.below hb1)
  go_wp2_with fail
  refine (C1.out _).mono ?_
  rintro e w2 ⟨rfl, hb2⟩
  have A2 := Lib.hid (A1.out.below hb2)
  clear A1
  go_wp2_with fail
  refine (C2.out _).mono ?_
  rintro e w3 ⟨rfl, hb3⟩
  have A3 := Lib.hid (A2.out.below hb3)
  clear A2
  obtain ⟨f0, f1, f2, f3, f4, f5, f6, f7, f8, f9, f10, fl⟩ := A3.out
  go_wp2_with fail
  refine (C3.out _).mono ?_
  rintro e w4 ⟨rfl, hb4⟩
  have A4 := Lib.hid (A3.out.below hb4)
  clear f0 f1 f2 f3 f4 f5 f6 f7 f8 f9 f10 fl
  obtain ⟨f0, f1, f2, f3, f4, f5, f6, f7, f8, f9, f10, fl⟩ := A4.out
  go_wp2_with fail
  refine (C4.out _).mono ?_
  rintro e w5 ⟨rfl, hb5⟩
  go_wp2_with fail
  go_returns
  exact ⟨rfl, below_then ((Below.refl _ w).alloc (Nat.le_refl _) _) (below_then (below_then (below_then (below_then hb1 hb2) hb3) hb4) hb5)⟩
end Go.Proofs.Ytfalmbcnbomaoaa
