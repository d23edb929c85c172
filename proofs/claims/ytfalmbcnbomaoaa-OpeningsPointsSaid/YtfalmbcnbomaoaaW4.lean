/- right links, the head between levels, the flow of a gate -/
import Derived.Test.YtfalmbcnbomaoaaW3
namespace Go.Proofs.Ytfalmbcnbomaoaa
open Go.Proofs.Ytfalmbcnbomaoaa.DivLaw Go.Proofs.Ytfalmbcnbomaoaa.Open Go.RowKit
set_option linter.unusedVariables false

/-- Whether a link is a right weir, a right gate. -/
def isWeirB (kd up wd : Int) : Bool := decide (kd = 2) && (levelB up && (decide (1 ≤ wd) && decide (wd ≤ 1048576)))
def isGateB (kd up wd ht : Int) : Bool := decide (kd = 3) && (levelB up && (decide (1 ≤ wd) && decide (wd ≤ 32768) && (decide (1 ≤ ht) && decide (ht ≤ 32768))))
/-- The head between two levels. -/
def headV (sill up down : Int) : Int := max 0 (up - max down sill)
theorem levelB_range {n : Int} (h : levelB n = true) : -4194304 ≤ n ∧ n ≤ 4194304 := by unfold levelB at h; simpa using h

set_option maxHeartbeats 1000000 in
theorem isWeir_calls (n0 n1 n2 sc : ByteArray) (kd ln up dn wd ht : Int) (ca : Option Addr) (cn cc : Nat) (w : World) : Calls Try.prog 47 #[.agg #[.string n0, .string n1, .string n2, .int .i64 kd, .int .i64 ln, .int .i64 up, .int .i64 dn, .string sc, .int .i64 wd, .int .i64 ht, .slice ca cn cc]] w fun e w' => e = .returned (.bool (isWeirB kd up wd)) ∧ w.alloc (.cells #[.string n0, .string n1, .string n2, .int .i64 kd, .int .i64 ln, .int .i64 up, .int .i64 dn, .string sc, .int .i64 wd, .int .i64 ht, .slice ca cn cc] 32) = w' := by
  unfold isWeirB
  by_cases c1 : kd = 2
  · have c1' : ((kd : Int) == 2) = true := by rw [beq_iff_eq]; exact c1
    rw [decide_eq_true c1, Bool.true_and]
    clear c1
    cases hL : levelB up
    · rw [Bool.false_and]
      have c := fun W => level_calls up W
      rw [hL] at c
      have C := Lib.hid c
      clear c hL
      go_enter Try.func47, Try.ntmps47
      go_wp2_with fail
      refine (C.out _).mono ?_
      rintro e w1 ⟨rfl, rfl⟩
      go_wp2_with fail
      go_returns
      exact ⟨rfl, rfl⟩
    · rw [Bool.true_and]
      have c := fun W => level_calls up W
      rw [hL] at c
      have C := Lib.hid c
      clear c hL
      have d := fun W => within_calls wd 1 1048576 W
      generalize (decide (1 ≤ wd) && decide (wd ≤ 1048576)) = b at *
      have D := Lib.hid d
      clear d
      go_enter Try.func47, Try.ntmps47
      go_wp2_with fail
      refine (C.out _).mono ?_
      rintro e w1 ⟨rfl, rfl⟩
      go_wp2_with fail
      refine (D.out _).mono ?_
      rintro e w1 ⟨rfl, rfl⟩
      go_wp2_with fail
      go_returns
      exact ⟨rfl, rfl⟩
  · have c1' : ((kd : Int) == 2) = false := by rw [beq_eq_false_iff_ne]; exact c1
    rw [decide_eq_false c1, Bool.false_and]
    clear c1
    go_enter Try.func47, Try.ntmps47
    go_wp2_with fail
    go_returns
    exact ⟨rfl, rfl⟩

set_option maxHeartbeats 1000000 in
theorem isGate_calls (n0 n1 n2 sc : ByteArray) (kd ln up dn wd ht : Int) (ca : Option Addr) (cn cc : Nat) (w : World) : Calls Try.prog 43 #[.agg #[.string n0, .string n1, .string n2, .int .i64 kd, .int .i64 ln, .int .i64 up, .int .i64 dn, .string sc, .int .i64 wd, .int .i64 ht, .slice ca cn cc]] w fun e w' => e = .returned (.bool (isGateB kd up wd ht)) ∧ w.alloc (.cells #[.string n0, .string n1, .string n2, .int .i64 kd, .int .i64 ln, .int .i64 up, .int .i64 dn, .string sc, .int .i64 wd, .int .i64 ht, .slice ca cn cc] 32) = w' := by
  unfold isGateB
  by_cases c1 : kd = 3
  · have c1' : ((kd : Int) == 3) = true := by rw [beq_iff_eq]; exact c1
    rw [decide_eq_true c1, Bool.true_and]
    clear c1
    cases hL : levelB up
    · rw [Bool.false_and]
      have c := fun W => level_calls up W
      rw [hL] at c
      have C := Lib.hid c
      clear c hL
      go_enter Try.func43, Try.ntmps43
      go_wp2_with fail
      refine (C.out _).mono ?_
      rintro e w1 ⟨rfl, rfl⟩
      go_wp2_with fail
      go_returns
      exact ⟨rfl, rfl⟩
    · rw [Bool.true_and]
      have c := fun W => level_calls up W
      rw [hL] at c
      have C := Lib.hid c
      clear c hL
      have d := fun W => within_calls wd 1 32768 W
      have f := fun W => within_calls ht 1 32768 W
      generalize (decide (1 ≤ wd) && decide (wd ≤ 32768)) = b at *
      generalize (decide (1 ≤ ht) && decide (ht ≤ 32768)) = b' at *
      have D := Lib.hid d
      have F := Lib.hid f
      clear d f
      cases b
      · rw [Bool.false_and]
        go_enter Try.func43, Try.ntmps43
        go_wp2_with fail
        refine (C.out _).mono ?_
        rintro e w1 ⟨rfl, rfl⟩
        go_wp2_with fail
        refine (D.out _).mono ?_
        rintro e w1 ⟨rfl, rfl⟩
        go_wp2_with fail
        go_returns
        exact ⟨rfl, rfl⟩
      · rw [Bool.true_and]
        go_enter Try.func43, Try.ntmps43
        go_wp2_with fail
        refine (C.out _).mono ?_
        rintro e w1 ⟨rfl, rfl⟩
        go_wp2_with fail
        refine (D.out _).mono ?_
        rintro e w1 ⟨rfl, rfl⟩
        go_wp2_with fail
        refine (F.out _).mono ?_
        rintro e w1 ⟨rfl, rfl⟩
        go_wp2_with fail
        go_returns
        exact ⟨rfl, rfl⟩
  · have c1' : ((kd : Int) == 3) = false := by rw [beq_eq_false_iff_ne]; exact c1
    rw [decide_eq_false c1, Bool.false_and]
    clear c1
    go_enter Try.func43, Try.ntmps43
    go_wp2_with fail
    go_returns
    exact ⟨rfl, rfl⟩

theorem head_calls (n0 n1 n2 sc : ByteArray) (kd ln up dn wd ht : Int) (ca : Option Addr) (cn cc : Nat) (a b : Int) (hu0 : -4194304 ≤ up) (hu : up ≤ 4194304) (ha0 : -4194304 ≤ a) (ha : a ≤ 4194304) (hb0 : -4194304 ≤ b) (hb : b ≤ 4194304) (w : World) :
    Calls Try.prog 45 #[.agg #[.string n0, .string n1, .string n2, .int .i64 kd, .int .i64 ln, .int .i64 up, .int .i64 dn, .string sc, .int .i64 wd, .int .i64 ht, .slice ca cn cc], .int .i64 a, .int .i64 b] w fun e w' => e = .returned (.int .i64 (headV up a b)) ∧ w.alloc (.cells #[.string n0, .string n1, .string n2, .int .i64 kd, .int .i64 ln, .int .i64 up, .int .i64 dn, .string sc, .int .i64 wd, .int .i64 ht, .slice ca cn cc] 32) = w' := by
  unfold headV
  go_enter Try.func45, Try.ntmps45
  go_wp2_with fail
  go_returns
  exact ⟨rfl, rfl⟩

theorem headV_nonneg (u a b : Int) : 0 ≤ headV u a b := by unfold headV; omega
theorem isGateB_parts (kd up wd ht : Int) (h : isGateB kd up wd ht = true) : kd = 3 ∧ levelB up = true ∧ 1 ≤ wd ∧ wd ≤ 32768 ∧ 1 ≤ ht ∧ ht ≤ 32768 := by
  unfold isGateB at h
  simp only [Bool.and_eq_true, decide_eq_true_eq] at h
  exact ⟨h.1, h.2.1, h.2.2.1.1, h.2.2.1.2, h.2.2.2.1, h.2.2.2.2⟩
theorem isWeirB_parts (kd up wd : Int) (h : isWeirB kd up wd = true) : kd = 2 ∧ levelB up = true ∧ 1 ≤ wd ∧ wd ≤ 1048576 := by
  unfold isWeirB at h
  simp only [Bool.and_eq_true, decide_eq_true_eq] at h
  exact ⟨h.1, h.2.1, h.2.2.1, h.2.2.2⟩
/-- The area of a gate's opening. -/
def gateA (wd ht s h : Int) : Int := wd * min (ht * s / 1000) h
theorem gateA_range (wd ht s h : Int) (h1 : 1 ≤ wd) (h2 : wd ≤ 32768) (h3 : 1 ≤ ht) (h4 : ht ≤ 32768) (h5 : 0 ≤ s) (h6 : s ≤ 1000) (h7 : 0 ≤ h) :
    0 ≤ ht * s ∧ ht * s ≤ 32768000 ∧ 0 ≤ min (ht * s / 1000) h ∧ min (ht * s / 1000) h ≤ 32768 ∧ 0 ≤ gateA wd ht s h ∧ gateA wd ht s h ≤ 1073741824 := by
  have a := mul_range (show 0 ≤ ht by omega) h4 h5 h6
  have b : 0 ≤ min (ht * s / 1000) h ∧ min (ht * s / 1000) h ≤ 32768 := by omega
  have c := mul_range (show 0 ≤ wd by omega) h2 b.1 b.2
  unfold gateA
  omega

set_option maxHeartbeats 1000000 in
theorem gate_calls (n0 n1 n2 sc : ByteArray) (kd ln up dn wd ht : Int) (ca : Option Addr) (cn cc : Nat) (s h : Int) (h1 : 1 ≤ wd) (h2 : wd ≤ 32768) (h3 : 1 ≤ ht) (h4 : ht ≤ 32768) (h5 : 0 ≤ s) (h6 : s ≤ 1000) (h7 : 0 ≤ h) (h8 : h ≤ 1048576) (w : World) :
    Calls Try.prog 46 #[.agg #[.string n0, .string n1, .string n2, .int .i64 kd, .int .i64 ln, .int .i64 up, .int .i64 dn, .string sc, .int .i64 wd, .int .i64 ht, .slice ca cn cc], .int .i64 s, .int .i64 h] w fun e w' => e = .returned (.int .i64 (oq (gateA wd ht s h) h)) ∧ Below w.heap.size w w' := by
  obtain ⟨r1, r2, r3, r4, r5, r6⟩ := gateA_range wd ht s h h1 h2 h3 h4 h5 h6 h7
  have c := fun W => orifice_calls (gateA wd ht s h) h r5 r6 h7 h8 W
  have C := Lib.hid c
  have r5' : 0 ≤ wd * min (ht * s / 1000) h := r5
  have r6' : wd * min (ht * s / 1000) h ≤ 1073741824 := r6
  clear c
  go_enter Try.func46, Try.ntmps46
  go_wp2_with fail
  refine (C.out _).mono ?_
  rintro e w1 ⟨rfl, hb1⟩
  go_wp2_with fail
  go_returns
  exact ⟨rfl, ((Below.refl _ w).alloc (Nat.le_refl _) _).trans (hb1.mono (by simp))⟩

/-- The flow of a gate, of a weir between two levels: the number and the error. -/
def GateV (kd up wd ht s a b : Int) : Int × Int :=
  if isGateB kd up wd ht = true then
    if (0 ≤ s ∧ s ≤ 1000) ∧ levelB a = true ∧ levelB b = true then
      if 1048576 < headV up a b then (0, 5) else flowV (oq (gateA wd ht s (headV up a b)) (headV up a b))
    else (0, 2)
  else (0, 1)
def OverV (kd up wd a b : Int) : Int × Int :=
  if isWeirB kd up wd = true then
    if levelB a = true ∧ levelB b = true then
      if 1048576 < headV up a b then (0, 5) else flowV (wq wd (headV up a b))
    else (0, 2)
  else (0, 1)

set_option maxHeartbeats 2000000 in
theorem Gate_calls (n0 n1 n2 sc : ByteArray) (kd ln up dn wd ht : Int) (ca : Option Addr) (cn cc : Nat) (s a b : Int) (w : World) :
    Calls Try.prog 16 #[.agg #[.string n0, .string n1, .string n2, .int .i64 kd, .int .i64 ln, .int .i64 up, .int .i64 dn, .string sc, .int .i64 wd, .int .i64 ht, .slice ca cn cc], .int .i64 s, .int .i64 a, .int .i64 b] w fun e w' => e = .returned (.tuple #[.int .i64 (GateV kd up wd ht s a b).1, .int .i64 (GateV kd up wd ht s a b).2]) ∧ Below w.heap.size w w' := by
  have g := fun W => isGate_calls n0 n1 n2 sc kd ln up dn wd ht ca cn cc W
  unfold GateV
  cases hg : isGateB kd up wd ht
  · rw [if_neg (by decide)]
    rw [hg] at g
    have G := Lib.hid g
    clear g hg
    go_enter Try.func16, Try.ntmps16
    go_wp2_with fail
    refine (G.out _).mono ?_
    rintro e w1 ⟨rfl, rfl⟩
    go_wp2_with fail
    go_returns
    exact ⟨rfl, by go_grown⟩
  · rw [if_pos rfl]
    rw [hg] at g
    obtain ⟨p1, p2, p3, p4, p5, p6⟩ := isGateB_parts _ _ _ _ hg
    have G := Lib.hid g
    clear g hg p1
    by_cases cs : 0 ≤ s ∧ s ≤ 1000
    · have d := fun W => within_yes s 0 1000 W cs.1 cs.2
      have D := Lib.hid d
      clear d
      have lu := fun W => level_calls a W
      have ld := fun W => level_calls b W
      cases ha : levelB a
      · rw [if_neg (by simp)]
        rw [ha] at lu
        have LU := Lib.hid lu
        clear lu ld ha cs p2 p3 p4 p5 p6
        go_enter Try.func16, Try.ntmps16
        go_wp2_with fail
        refine (G.out _).mono ?_
        rintro e w1 ⟨rfl, rfl⟩
        go_wp2_with fail
        refine (D.out _).mono ?_
        rintro e w1 ⟨rfl, rfl⟩
        go_wp2_with fail
        refine (LU.out _).mono ?_
        rintro e w1 ⟨rfl, rfl⟩
        go_wp2_with fail
        go_returns
        exact ⟨rfl, by go_grown⟩
      · cases hb : levelB b
        · rw [if_neg (by simp)]
          rw [ha] at lu
          rw [hb] at ld
          have LU := Lib.hid lu
          have LD := Lib.hid ld
          clear lu ld ha hb cs p2 p3 p4 p5 p6
          go_enter Try.func16, Try.ntmps16
          go_wp2_with fail
          refine (G.out _).mono ?_
          rintro e w1 ⟨rfl, rfl⟩
          go_wp2_with fail
          refine (D.out _).mono ?_
          rintro e w1 ⟨rfl, rfl⟩
          go_wp2_with fail
          refine (LU.out _).mono ?_
          rintro e w1 ⟨rfl, rfl⟩
          go_wp2_with fail
          refine (LD.out _).mono ?_
          rintro e w1 ⟨rfl, rfl⟩
          go_wp2_with fail
          go_returns
          exact ⟨rfl, by go_grown⟩
        · rw [if_pos ⟨cs, rfl, rfl⟩]
          have pa := levelB_range ha
          have pb := levelB_range hb
          have pu := levelB_range p2
          have hd := fun W => head_calls n0 n1 n2 sc kd ln up dn wd ht ca cn cc a b pu.1 pu.2 pa.1 pa.2 pb.1 pb.2 W
          have h0 := headV_nonneg up a b
          have gt := fun (hh : headV up a b ≤ 1048576) W => gate_calls n0 n1 n2 sc kd ln up dn wd ht ca cn cc s (headV up a b) p3 p4 p5 p6 cs.1 cs.2 h0 hh W
          rw [ha] at lu
          rw [hb] at ld
          have LU := Lib.hid lu
          have LD := Lib.hid ld
          have HD := Lib.hid hd
          generalize headV up a b = h at *
          by_cases hc : 1048576 < h
          · rw [if_pos hc]
            clear gt lu ld ha hb cs p2 p3 p4 p5 p6 pa pb pu hd h0
            go_enter Try.func16, Try.ntmps16
            go_wp2_with fail
            refine (G.out _).mono ?_
            rintro e w1 ⟨rfl, rfl⟩
            go_wp2_with fail
            refine (D.out _).mono ?_
            rintro e w1 ⟨rfl, rfl⟩
            go_wp2_with fail
            refine (LU.out _).mono ?_
            rintro e w1 ⟨rfl, rfl⟩
            go_wp2_with fail
            refine (LD.out _).mono ?_
            rintro e w1 ⟨rfl, rfl⟩
            go_wp2_with fail
            refine (HD.out _).mono ?_
            rintro e w1 ⟨rfl, rfl⟩
            go_wp2_with fail
            go_returns
            exact ⟨rfl, by go_grown⟩
          · rw [if_neg hc]
            have GT := Lib.hid (gt (by omega))
            clear gt lu ld ha hb cs p2 p3 p4 p5 p6 pa pb pu hd h0
            go_enter Try.func16, Try.ntmps16
            go_wp2_with fail
            refine (G.out _).mono ?_
            rintro e w1 ⟨rfl, rfl⟩
            go_wp2_with fail
            refine (D.out _).mono ?_
            rintro e w1 ⟨rfl, rfl⟩
            go_wp2_with fail
            refine (LU.out _).mono ?_
            rintro e w1 ⟨rfl, rfl⟩
            go_wp2_with fail
            refine (LD.out _).mono ?_
            rintro e w1 ⟨rfl, rfl⟩
            go_wp2_with fail
            refine (HD.out _).mono ?_
            rintro e w1 ⟨rfl, rfl⟩
            go_wp2_with fail
            refine (GT.out _).mono ?_
            rintro e w1 ⟨rfl, hb1⟩
            go_wp2_with fail
            refine (flow_calls _ _).mono ?_
            rintro e w2 ⟨rfl, rfl⟩
            go_wp2_with fail
            go_returns
            exact ⟨rfl, Below.trans (by go_grown) (hb1.mono (by simp; try omega))⟩
    · rw [if_neg (fun h => cs h.1)]
      have d := fun W => within_no s 0 1000 W cs
      have D := Lib.hid d
      clear d cs p2 p3 p4 p5 p6
      go_enter Try.func16, Try.ntmps16
      go_wp2_with fail
      refine (G.out _).mono ?_
      rintro e w1 ⟨rfl, rfl⟩
      go_wp2_with fail
      refine (D.out _).mono ?_
      rintro e w1 ⟨rfl, rfl⟩
      go_wp2_with fail
      go_returns
      exact ⟨rfl, by go_grown⟩
end Go.Proofs.Ytfalmbcnbomaoaa
