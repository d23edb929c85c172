/- the reference's links; Over of both; the reference's Gate -/
import Derived.Test.YtfalmbcnbomaoaaW4
namespace Go.Proofs.Ytfalmbcnbomaoaa
open Go.Proofs.Ytfalmbcnbomaoaa.DivLaw Go.Proofs.Ytfalmbcnbomaoaa.Open Go.RowKit
set_option linter.unusedVariables false

theorem Level_ref (n : Int) (w : World) : Calls Try.prog 20 #[.int .i64 n] w fun e w' => e = .returned (.bool (levelB n)) ∧ w = w' := by
  unfold levelB
  by_cases h1 : -4194304 ≤ n <;> by_cases h2 : n ≤ 4194304
  all_goals
    go_enter Try.func20, Try.ntmps20
    go_wp2
    go_ret
    exact ⟨by simp [h1, h2], rfl⟩

set_option maxHeartbeats 2000000 in
theorem IsWeir_ref (n0 n1 n2 sc : ByteArray) (kd ln up dn wd ht : Int) (ca : Option Addr) (cn cc : Nat) (w : World) : Calls Try.prog 21 #[.agg #[.string n0, .string n1, .string n2, .int .i64 kd, .int .i64 ln, .int .i64 up, .int .i64 dn, .string sc, .int .i64 wd, .int .i64 ht, .slice ca cn cc]] w fun e w' => e = .returned (.bool (isWeirB kd up wd)) ∧ w.alloc (.cells #[.string n0, .string n1, .string n2, .int .i64 kd, .int .i64 ln, .int .i64 up, .int .i64 dn, .string sc, .int .i64 wd, .int .i64 ht, .slice ca cn cc] 32) = w' := by
  unfold isWeirB
  by_cases c1 : kd = 2
  · have c1' : ((kd : Int) == 2) = true := by rw [beq_iff_eq]; exact c1
    rw [decide_eq_true c1, Bool.true_and]
    clear c1
    have c := fun W => Level_ref up W
    cases hL : levelB up
    · rw [Bool.false_and]
      rw [hL] at c
      have C := Lib.hid c
      clear c hL
      go_enter Try.func21, Try.ntmps21
      go_wp2_with fail
      refine (C.out _).mono ?_
      rintro e w1 ⟨rfl, rfl⟩
      go_wp2_with fail
      go_returns
      exact ⟨rfl, rfl⟩
    · rw [Bool.true_and]
      rw [hL] at c
      have C := Lib.hid c
      clear c hL
      by_cases d0 : 1 ≤ wd
      · by_cases d1 : wd ≤ 1048576
        · go_enter Try.func21, Try.ntmps21
          go_wp2_with fail
          refine (C.out _).mono ?_
          rintro e w1 ⟨rfl, rfl⟩
          go_wp2_with fail
          go_returns
          exact ⟨by first | (simp [*]; done) | (simp [*]; omega), rfl⟩
        · go_enter Try.func21, Try.ntmps21
          go_wp2_with fail
          refine (C.out _).mono ?_
          rintro e w1 ⟨rfl, rfl⟩
          go_wp2_with fail
          go_returns
          exact ⟨by first | (simp [*]; done) | (simp [*]; omega), rfl⟩
      · go_enter Try.func21, Try.ntmps21
        go_wp2_with fail
        refine (C.out _).mono ?_
        rintro e w1 ⟨rfl, rfl⟩
        go_wp2_with fail
        go_returns
        exact ⟨by first | (simp [*]; done) | (simp [*]; omega), rfl⟩
  · have c1' : ((kd : Int) == 2) = false := by rw [beq_eq_false_iff_ne]; exact c1
    rw [decide_eq_false c1, Bool.false_and]
    clear c1
    go_enter Try.func21, Try.ntmps21
    go_wp2_with fail
    go_returns
    exact ⟨rfl, rfl⟩

set_option maxHeartbeats 2000000 in
theorem IsGate_ref (n0 n1 n2 sc : ByteArray) (kd ln up dn wd ht : Int) (ca : Option Addr) (cn cc : Nat) (w : World) : Calls Try.prog 22 #[.agg #[.string n0, .string n1, .string n2, .int .i64 kd, .int .i64 ln, .int .i64 up, .int .i64 dn, .string sc, .int .i64 wd, .int .i64 ht, .slice ca cn cc]] w fun e w' => e = .returned (.bool (isGateB kd up wd ht)) ∧ w.alloc (.cells #[.string n0, .string n1, .string n2, .int .i64 kd, .int .i64 ln, .int .i64 up, .int .i64 dn, .string sc, .int .i64 wd, .int .i64 ht, .slice ca cn cc] 32) = w' := by
  unfold isGateB
  by_cases c1 : kd = 3
  · have c1' : ((kd : Int) == 3) = true := by rw [beq_iff_eq]; exact c1
    rw [decide_eq_true c1, Bool.true_and]
    clear c1
    have c := fun W => Level_ref up W
    cases hL : levelB up
    · rw [Bool.false_and]
      rw [hL] at c
      have C := Lib.hid c
      clear c hL
      go_enter Try.func22, Try.ntmps22
      go_wp2_with fail
      refine (C.out _).mono ?_
      rintro e w1 ⟨rfl, rfl⟩
      go_wp2_with fail
      go_returns
      exact ⟨rfl, rfl⟩
    · rw [Bool.true_and]
      rw [hL] at c
      have C := Lib.hid c
      clear c hL
      by_cases d0 : 1 ≤ wd
      · by_cases d1 : wd ≤ 32768
        · by_cases d2 : 1 ≤ ht
          · by_cases d3 : ht ≤ 32768
            · go_enter Try.func22, Try.ntmps22
              go_wp2_with fail
              refine (C.out _).mono ?_
              rintro e w1 ⟨rfl, rfl⟩
              go_wp2_with fail
              go_returns
              exact ⟨by first | (simp [*]; done) | (simp [*]; omega), rfl⟩
            · go_enter Try.func22, Try.ntmps22
              go_wp2_with fail
              refine (C.out _).mono ?_
              rintro e w1 ⟨rfl, rfl⟩
              go_wp2_with fail
              go_returns
              exact ⟨by first | (simp [*]; done) | (simp [*]; omega), rfl⟩
          · go_enter Try.func22, Try.ntmps22
            go_wp2_with fail
            refine (C.out _).mono ?_
            rintro e w1 ⟨rfl, rfl⟩
            go_wp2_with fail
            go_returns
            exact ⟨by first | (simp [*]; done) | (simp [*]; omega), rfl⟩
        · go_enter Try.func22, Try.ntmps22
          go_wp2_with fail
          refine (C.out _).mono ?_
          rintro e w1 ⟨rfl, rfl⟩
          go_wp2_with fail
          go_returns
          exact ⟨by first | (simp [*]; done) | (simp [*]; omega), rfl⟩
      · go_enter Try.func22, Try.ntmps22
        go_wp2_with fail
        refine (C.out _).mono ?_
        rintro e w1 ⟨rfl, rfl⟩
        go_wp2_with fail
        go_returns
        exact ⟨by first | (simp [*]; done) | (simp [*]; omega), rfl⟩
  · have c1' : ((kd : Int) == 3) = false := by rw [beq_eq_false_iff_ne]; exact c1
    rw [decide_eq_false c1, Bool.false_and]
    clear c1
    go_enter Try.func22, Try.ntmps22
    go_wp2_with fail
    go_returns
    exact ⟨rfl, rfl⟩

set_option maxHeartbeats 1000000 in
theorem Between_ref (n0 n1 n2 sc : ByteArray) (kd ln up dn wd ht : Int) (ca : Option Addr) (cn cc : Nat) (a b : Int) (hu0 : -4194304 ≤ up) (hu : up ≤ 4194304) (ha0 : -4194304 ≤ a) (ha : a ≤ 4194304) (hb0 : -4194304 ≤ b) (hb : b ≤ 4194304) (w : World) :
    Calls Try.prog 28 #[.agg #[.string n0, .string n1, .string n2, .int .i64 kd, .int .i64 ln, .int .i64 up, .int .i64 dn, .string sc, .int .i64 wd, .int .i64 ht, .slice ca cn cc], .int .i64 a, .int .i64 b] w fun e w' => e = .returned (.int .i64 (headV up a b)) ∧ w.alloc (.cells #[.string n0, .string n1, .string n2, .int .i64 kd, .int .i64 ln, .int .i64 up, .int .i64 dn, .string sc, .int .i64 wd, .int .i64 ht, .slice ca cn cc] 32) = w' := by
  by_cases c1 : b < up
  · by_cases c2 : a ≤ up
    · have e : headV up a b = 0 := by unfold headV; omega
      rw [e]
      go_enter Try.func28, Try.ntmps28
      go_wp2_with fail
      go_returns
      exact ⟨rfl, rfl⟩
    · have e : headV up a b = a - up := by unfold headV; omega
      rw [e]
      go_enter Try.func28, Try.ntmps28
      go_wp2_with fail
      go_returns
      exact ⟨rfl, rfl⟩
  · by_cases c2 : a ≤ b
    · have e : headV up a b = 0 := by unfold headV; omega
      rw [e]
      go_enter Try.func28, Try.ntmps28
      go_wp2_with fail
      go_returns
      exact ⟨rfl, rfl⟩
    · have e : headV up a b = a - b := by unfold headV; omega
      rw [e]
      go_enter Try.func28, Try.ntmps28
      go_wp2_with fail
      go_returns
      exact ⟨rfl, rfl⟩

set_option maxHeartbeats 2000000 in
theorem Over_calls (n0 n1 n2 sc : ByteArray) (kd ln up dn wd ht : Int) (ca : Option Addr) (cn cc : Nat) (a b : Int) (w : World) :
    Calls Try.prog 18 #[.agg #[.string n0, .string n1, .string n2, .int .i64 kd, .int .i64 ln, .int .i64 up, .int .i64 dn, .string sc, .int .i64 wd, .int .i64 ht, .slice ca cn cc], .int .i64 a, .int .i64 b] w fun e w' => e = .returned (.tuple #[.int .i64 (OverV kd up wd a b).1, .int .i64 (OverV kd up wd a b).2]) ∧ Below w.heap.size w w' := by
  have g := fun W => isWeir_calls n0 n1 n2 sc kd ln up dn wd ht ca cn cc W
  unfold OverV
  cases hg : isWeirB kd up wd
  · rw [if_neg (by decide)]
    rw [hg] at g
    have G := Lib.hid g
    clear g hg
    go_enter Try.func18, Try.ntmps18
    go_wp2_with fail
    refine (G.out _).mono ?_
    rintro e w1 ⟨rfl, rfl⟩
    go_wp2_with fail
    go_returns
    exact ⟨rfl, by go_grown⟩
  · rw [if_pos rfl]
    rw [hg] at g
    obtain ⟨p1, p2, p3, p4⟩ := isWeirB_parts _ _ _ hg
    have G := Lib.hid g
    clear g hg p1
    have lu := fun W => level_calls a W
    have ld := fun W => level_calls b W
    cases ha : levelB a
    · rw [if_neg (by simp)]
      rw [ha] at lu
      have LU := Lib.hid lu
      clear lu ld ha p2 p3 p4
      go_enter Try.func18, Try.ntmps18
      go_wp2_with fail
      refine (G.out _).mono ?_
      rintro e w1 ⟨rfl, rfl⟩
      go_wp2_with fail
      refine (LU.out _).mono ?_
      rintro e w1 ⟨rfl, rfl⟩
      go_wp2_with fail
      go_returns
      exact ⟨rfl, by go_grown⟩
    · cases hb : levelB b
      · rw [if_neg (by simp)]
        rw [ha] at lu
        rw [hb] at ld
        have LU := Lib.hid lu
        have LD := Lib.hid ld
        clear lu ld ha hb p2 p3 p4
        go_enter Try.func18, Try.ntmps18
        go_wp2_with fail
        refine (G.out _).mono ?_
        rintro e w1 ⟨rfl, rfl⟩
        go_wp2_with fail
        refine (LU.out _).mono ?_
        rintro e w1 ⟨rfl, rfl⟩
        go_wp2_with fail
        refine (LD.out _).mono ?_
        rintro e w1 ⟨rfl, rfl⟩
        go_wp2_with fail
        go_returns
        exact ⟨rfl, by go_grown⟩
      · rw [if_pos ⟨rfl, rfl⟩]
        have pa := levelB_range ha
        have pb := levelB_range hb
        have pu := levelB_range p2
        have hd := fun W => head_calls n0 n1 n2 sc kd ln up dn wd ht ca cn cc a b pu.1 pu.2 pa.1 pa.2 pb.1 pb.2 W
        have h0 := headV_nonneg up a b
        rw [ha] at lu
        rw [hb] at ld
        have LU := Lib.hid lu
        have LD := Lib.hid ld
        have HD := Lib.hid hd
        generalize headV up a b = h at *
        by_cases hc : 1048576 < h
        · rw [if_pos hc]
          clear lu ld ha hb p2 p3 p4 pa pb pu hd h0
          go_enter Try.func18, Try.ntmps18
          go_wp2_with fail
          refine (G.out _).mono ?_
          rintro e w1 ⟨rfl, rfl⟩
          go_wp2_with fail
          refine (LU.out _).mono ?_
          rintro e w1 ⟨rfl, rfl⟩
          go_wp2_with fail
          refine (LD.out _).mono ?_
          rintro e w1 ⟨rfl, rfl⟩
          go_wp2_with fail
          refine (HD.out _).mono ?_
          rintro e w1 ⟨rfl, rfl⟩
          go_wp2_with fail
          go_returns
          exact ⟨rfl, by go_grown⟩
        · rw [if_neg hc]
          have gt := fun W => weir_calls wd h (by omega) p4 h0 (by omega) W
          have GT := Lib.hid gt
          clear gt lu ld ha hb p2 p3 p4 pa pb pu hd h0
          go_enter Try.func18, Try.ntmps18
          go_wp2_with fail
          refine (G.out _).mono ?_
          rintro e w1 ⟨rfl, rfl⟩
          go_wp2_with fail
          refine (LU.out _).mono ?_
          rintro e w1 ⟨rfl, rfl⟩
          go_wp2_with fail
          refine (LD.out _).mono ?_
          rintro e w1 ⟨rfl, rfl⟩
          go_wp2_with fail
          refine (HD.out _).mono ?_
          rintro e w1 ⟨rfl, rfl⟩
          go_wp2_with fail
          refine (GT.out _).mono ?_
          rintro e w1 ⟨rfl, hb1⟩
          go_wp2_with fail
          refine (flow_calls _ _).mono ?_
          rintro e w2 ⟨rfl, rfl⟩
          go_wp2_with fail
          go_returns
          exact ⟨rfl, Below.trans (by go_grown) (hb1.mono (by simp; try omega))⟩

set_option maxHeartbeats 2000000 in
theorem Over_ref (n0 n1 n2 sc : ByteArray) (kd ln up dn wd ht : Int) (ca : Option Addr) (cn cc : Nat) (a b : Int) (w : World) :
    Calls Try.prog 19 #[.agg #[.string n0, .string n1, .string n2, .int .i64 kd, .int .i64 ln, .int .i64 up, .int .i64 dn, .string sc, .int .i64 wd, .int .i64 ht, .slice ca cn cc], .int .i64 a, .int .i64 b] w fun e w' => e = .returned (.tuple #[.int .i64 (OverV kd up wd a b).1, .int .i64 (OverV kd up wd a b).2]) ∧ Below w.heap.size w w' := by
  have g := fun W => IsWeir_ref n0 n1 n2 sc kd ln up dn wd ht ca cn cc W
  unfold OverV
  cases hg : isWeirB kd up wd
  · rw [if_neg (by decide)]
    rw [hg] at g
    have G := Lib.hid g
    clear g hg
    go_enter Try.func19, Try.ntmps19
    go_wp2_with fail
    refine (G.out _).mono ?_
    rintro e w1 ⟨rfl, rfl⟩
    go_wp2_with fail
    go_returns
    exact ⟨rfl, by go_grown⟩
  · rw [if_pos rfl]
    rw [hg] at g
    obtain ⟨p1, p2, p3, p4⟩ := isWeirB_parts _ _ _ hg
    have G := Lib.hid g
    clear g hg p1
    have lu := fun W => Level_ref a W
    have ld := fun W => Level_ref b W
    cases ha : levelB a
    · rw [if_neg (by simp)]
      rw [ha] at lu
      have LU := Lib.hid lu
      clear lu ld ha p2 p3 p4
      go_enter Try.func19, Try.ntmps19
      go_wp2_with fail
      refine (G.out _).mono ?_
      rintro e w1 ⟨rfl, rfl⟩
      go_wp2_with fail
      refine (LU.out _).mono ?_
      rintro e w1 ⟨rfl, rfl⟩
      go_wp2_with fail
      go_returns
      exact ⟨rfl, by go_grown⟩
    · cases hb : levelB b
      · rw [if_neg (by simp)]
        rw [ha] at lu
        rw [hb] at ld
        have LU := Lib.hid lu
        have LD := Lib.hid ld
        clear lu ld ha hb p2 p3 p4
        go_enter Try.func19, Try.ntmps19
        go_wp2_with fail
        refine (G.out _).mono ?_
        rintro e w1 ⟨rfl, rfl⟩
        go_wp2_with fail
        refine (LU.out _).mono ?_
        rintro e w1 ⟨rfl, rfl⟩
        go_wp2_with fail
        refine (LD.out _).mono ?_
        rintro e w1 ⟨rfl, rfl⟩
        go_wp2_with fail
        go_returns
        exact ⟨rfl, by go_grown⟩
      · rw [if_pos ⟨rfl, rfl⟩]
        have pa := levelB_range ha
        have pb := levelB_range hb
        have pu := levelB_range p2
        have hd := fun W => Between_ref n0 n1 n2 sc kd ln up dn wd ht ca cn cc a b pu.1 pu.2 pa.1 pa.2 pb.1 pb.2 W
        have h0 := headV_nonneg up a b
        rw [ha] at lu
        rw [hb] at ld
        have LU := Lib.hid lu
        have LD := Lib.hid ld
        have HD := Lib.hid hd
        generalize headV up a b = h at *
        by_cases hc : 1048576 < h
        · rw [if_pos hc]
          clear lu ld ha hb p2 p3 p4 pa pb pu hd h0
          go_enter Try.func19, Try.ntmps19
          go_wp2_with fail
          refine (G.out _).mono ?_
          rintro e w1 ⟨rfl, rfl⟩
          go_wp2_with fail
          refine (LU.out _).mono ?_
          rintro e w1 ⟨rfl, rfl⟩
          go_wp2_with fail
          refine (LD.out _).mono ?_
          rintro e w1 ⟨rfl, rfl⟩
          go_wp2_with fail
          refine (HD.out _).mono ?_
          rintro e w1 ⟨rfl, rfl⟩
          go_wp2_with fail
          go_returns
          exact ⟨rfl, by go_grown⟩
        · rw [if_neg hc]
          have gt := fun W => Weir_ref wd h W
          rw [show WeirV wd h = flowV (wq wd h) from by unfold WeirV; rw [if_pos ⟨p3, p4, h0, by omega⟩]] at gt
          have GT := Lib.hid gt
          clear gt lu ld ha hb p2 p3 p4 pa pb pu hd h0
          go_enter Try.func19, Try.ntmps19
          go_wp2_with fail
          refine (G.out _).mono ?_
          rintro e w1 ⟨rfl, rfl⟩
          go_wp2_with fail
          refine (LU.out _).mono ?_
          rintro e w1 ⟨rfl, rfl⟩
          go_wp2_with fail
          refine (LD.out _).mono ?_
          rintro e w1 ⟨rfl, rfl⟩
          go_wp2_with fail
          refine (HD.out _).mono ?_
          rintro e w1 ⟨rfl, rfl⟩
          go_wp2_with fail
          refine (GT.out _).mono ?_
          rintro e w1 ⟨rfl, hb1⟩
          go_wp2_with fail
          go_returns
          exact ⟨rfl, Below.trans (by go_grown) (hb1.mono (by simp; try omega))⟩

set_option maxHeartbeats 4000000 in
theorem Gate_ref (n0 n1 n2 sc : ByteArray) (kd ln up dn wd ht : Int) (ca : Option Addr) (cn cc : Nat) (s a b : Int) (w : World) :
    Calls Try.prog 17 #[.agg #[.string n0, .string n1, .string n2, .int .i64 kd, .int .i64 ln, .int .i64 up, .int .i64 dn, .string sc, .int .i64 wd, .int .i64 ht, .slice ca cn cc], .int .i64 s, .int .i64 a, .int .i64 b] w fun e w' => e = .returned (.tuple #[.int .i64 (GateV kd up wd ht s a b).1, .int .i64 (GateV kd up wd ht s a b).2]) ∧ Below w.heap.size w w' := by
  have g := fun W => IsGate_ref n0 n1 n2 sc kd ln up dn wd ht ca cn cc W
  unfold GateV
  cases hg : isGateB kd up wd ht
  · rw [if_neg (by decide)]
    rw [hg] at g
    have G := Lib.hid g
    clear g hg
    go_enter Try.func17, Try.ntmps17
    go_wp2_with fail
    refine (G.out _).mono ?_
    rintro e w1 ⟨rfl, rfl⟩
    go_wp2_with fail
    go_returns
    exact ⟨rfl, by go_grown⟩
  · rw [if_pos rfl]
    rw [hg] at g
    obtain ⟨p1, p2, p3, p4, p5, p6⟩ := isGateB_parts _ _ _ _ hg
    have G := Lib.hid g
    clear g hg p1
    by_cases cs0 : s < 0
    · rw [if_neg (by omega)]
      clear p2 p3 p4 p5 p6
      go_enter Try.func17, Try.ntmps17
      go_wp2_with fail
      refine (G.out _).mono ?_
      rintro e w1 ⟨rfl, rfl⟩
      go_wp2_with fail
      go_returns
      exact ⟨rfl, by go_grown⟩
    · by_cases cs1 : 1000 < s
      · rw [if_neg (by omega)]
        clear p2 p3 p4 p5 p6
        go_enter Try.func17, Try.ntmps17
        go_wp2_with fail
        refine (G.out _).mono ?_
        rintro e w1 ⟨rfl, rfl⟩
        go_wp2_with fail
        go_returns
        exact ⟨rfl, by go_grown⟩
      · have lu := fun W => Level_ref a W
        have ld := fun W => Level_ref b W
        cases ha : levelB a
        · rw [if_neg (by simp)]
          rw [ha] at lu
          have LU := Lib.hid lu
          clear lu ld ha p2 p3 p4 p5 p6
          go_enter Try.func17, Try.ntmps17
          go_wp2_with fail
          refine (G.out _).mono ?_
          rintro e w1 ⟨rfl, rfl⟩
          go_wp2_with fail
          refine (LU.out _).mono ?_
          rintro e w1 ⟨rfl, rfl⟩
          go_wp2_with fail
          go_returns
          exact ⟨rfl, by go_grown⟩
        · cases hb : levelB b
          · rw [if_neg (by simp)]
            rw [ha] at lu
            rw [hb] at ld
            have LU := Lib.hid lu
            have LD := Lib.hid ld
            clear lu ld ha hb p2 p3 p4 p5 p6
            go_enter Try.func17, Try.ntmps17
            go_wp2_with fail
            refine (G.out _).mono ?_
            rintro e w1 ⟨rfl, rfl⟩
            go_wp2_with fail
            refine (LU.out _).mono ?_
            rintro e w1 ⟨rfl, rfl⟩
            go_wp2_with fail
            refine (LD.out _).mono ?_
            rintro e w1 ⟨rfl, rfl⟩
            go_wp2_with fail
            go_returns
            exact ⟨rfl, by go_grown⟩
          · rw [if_pos ⟨by omega, rfl, rfl⟩]
            have pa := levelB_range ha
            have pb := levelB_range hb
            have pu := levelB_range p2
            have hd := fun W => Between_ref n0 n1 n2 sc kd ln up dn wd ht ca cn cc a b pu.1 pu.2 pa.1 pa.2 pb.1 pb.2 W
            have h0 := headV_nonneg up a b
            rw [ha] at lu
            rw [hb] at ld
            have LU := Lib.hid lu
            have LD := Lib.hid ld
            have HD := Lib.hid hd
            generalize headV up a b = h at *
            by_cases hc : 1048576 < h
            · rw [if_pos hc]
              clear lu ld ha hb p2 p3 p4 p5 p6 pa pb pu hd h0
              go_enter Try.func17, Try.ntmps17
              go_wp2_with fail
              refine (G.out _).mono ?_
              rintro e w1 ⟨rfl, rfl⟩
              go_wp2_with fail
              refine (LU.out _).mono ?_
              rintro e w1 ⟨rfl, rfl⟩
              go_wp2_with fail
              refine (LD.out _).mono ?_
              rintro e w1 ⟨rfl, rfl⟩
              go_wp2_with fail
              refine (HD.out _).mono ?_
              rintro e w1 ⟨rfl, rfl⟩
              go_wp2_with fail
              go_returns
              exact ⟨rfl, by go_grown⟩
            · rw [if_neg hc]
              obtain ⟨r1, r2, r3, r4, r5, r6⟩ := gateA_range wd ht s h p3 p4 p5 p6 (by omega) (by omega) h0
              have gt := fun W => Orifice_ref (gateA wd ht s h) h W
              rw [show OrificeV (gateA wd ht s h) h = flowV (oq (gateA wd ht s h) h) from by unfold OrificeV; rw [if_pos ⟨r5, r6, h0, by omega⟩]] at gt
              unfold gateA at gt r5 r6 ⊢
              by_cases cm : h < ht * s / 1000
              · rw [show min (ht * s / 1000) h = h from by omega] at gt r5 r6 ⊢
                have GT := Lib.hid gt
                clear gt lu ld ha hb p2 p3 p4 p5 p6 pa pb pu hd
                go_enter Try.func17, Try.ntmps17
                go_wp2_with fail
                refine (G.out _).mono ?_
                rintro e w1 ⟨rfl, rfl⟩
                go_wp2_with fail
                refine (LU.out _).mono ?_
                rintro e w1 ⟨rfl, rfl⟩
                go_wp2_with fail
                refine (LD.out _).mono ?_
                rintro e w1 ⟨rfl, rfl⟩
                go_wp2_with fail
                refine (HD.out _).mono ?_
                rintro e w1 ⟨rfl, rfl⟩
                go_wp2_with fail
                refine (GT.out _).mono ?_
                rintro e w1 ⟨rfl, hb1⟩
                go_wp2_with fail
                go_returns
                exact ⟨rfl, Below.trans (by go_grown) (hb1.mono (by simp; try omega))⟩
              · rw [show min (ht * s / 1000) h = ht * s / 1000 from by omega] at gt r5 r6 ⊢
                have GT := Lib.hid gt
                clear gt lu ld ha hb p2 p3 p4 p5 p6 pa pb pu hd
                go_enter Try.func17, Try.ntmps17
                go_wp2_with fail
                refine (G.out _).mono ?_
                rintro e w1 ⟨rfl, rfl⟩
                go_wp2_with fail
                refine (LU.out _).mono ?_
                rintro e w1 ⟨rfl, rfl⟩
                go_wp2_with fail
                refine (LD.out _).mono ?_
                rintro e w1 ⟨rfl, rfl⟩
                go_wp2_with fail
                refine (HD.out _).mono ?_
                rintro e w1 ⟨rfl, rfl⟩
                go_wp2_with fail
                refine (GT.out _).mono ?_
                rintro e w1 ⟨rfl, hb1⟩
                go_wp2_with fail
                go_returns
                exact ⟨rfl, Below.trans (by go_grown) (hb1.mono (by simp; try omega))⟩
end Go.Proofs.Ytfalmbcnbomaoaa
