/- GateSpan of the program -/
import Derived.Test.YtfalmbcnbomaoaaWD
namespace Go.Proofs.Ytfalmbcnbomaoaa
open Go.Proofs.Ytfalmbcnbomaoaa.DivLaw Go.Proofs.Ytfalmbcnbomaoaa.Open Go.RowKit
set_option linter.unusedVariables false

set_option maxHeartbeats 8000000 in
theorem GateSpan_calls (n0 n1 n2 sc : ByteArray) (kd ln up dn wd ht : Int) (ca : Option Addr) (cn cc : Nat) (s0 s1 u0 u1 d0 d1 : Int) (w : World) : Calls Try.prog 31 #[.agg #[.string n0, .string n1, .string n2, .int .i64 kd, .int .i64 ln, .int .i64 up, .int .i64 dn, .string sc, .int .i64 wd, .int .i64 ht, .slice ca cn cc], .agg #[.int .i64 s0, .int .i64 s1], .agg #[.int .i64 u0, .int .i64 u1], .agg #[.int .i64 d0, .int .i64 d1]] w fun e w' => e = .returned (.tuple #[.agg #[.int .i64 (SpanOf (isGateB kd up wd ht && (validB s0 s1 && (validB u0 u1 && (validB d0 d1)))) (GateV kd up wd ht s0 u0 d1) (GateV kd up wd ht s1 u1 d0)).1.1, .int .i64 (SpanOf (isGateB kd up wd ht && (validB s0 s1 && (validB u0 u1 && (validB d0 d1)))) (GateV kd up wd ht s0 u0 d1) (GateV kd up wd ht s1 u1 d0)).1.2], .int .i64 (SpanOf (isGateB kd up wd ht && (validB s0 s1 && (validB u0 u1 && (validB d0 d1)))) (GateV kd up wd ht s0 u0 d1) (GateV kd up wd ht s1 u1 d0)).2]) ∧ Below w.heap.size w w' := by
  have g : ∀ W, Calls Try.prog 43 #[.agg #[.string n0, .string n1, .string n2, .int .i64 kd, .int .i64 ln, .int .i64 up, .int .i64 dn, .string sc, .int .i64 wd, .int .i64 ht, .slice ca cn cc]] W fun e w' => e = .returned (.bool (isGateB kd up wd ht)) ∧ Below W.heap.size W w' := fun W => (isGate_calls n0 n1 n2 sc kd ln up dn wd ht ca cn cc W).mono fun e w' h => ⟨h.1, h.2 ▸ (Below.refl _ _).alloc (Nat.le_refl _) _⟩
  have v0 := fun W => Valid_calls s0 s1 W
  have v1 := fun W => Valid_calls u0 u1 W
  have v2 := fun W => Valid_calls d0 d1 W
  have AL := Lib.hid (((((AtL.new_ n0 n1 n2 sc kd ln up dn wd ht ca cn cc w).alloc (.cells #[.int .i64 s0, .int .i64 s1] 46)).alloc (.cells #[.int .i64 u0, .int .i64 u1] 46)).alloc (.cells #[.int .i64 d0, .int .i64 d1] 46)).alloc (.cells #[.int .i64 0, .int .i64 0] 46))
  have A0 := Lib.hid ((((AtS.new_ s0 s1 46 (w.alloc (.cells #[.string n0, .string n1, .string n2, .int .i64 kd, .int .i64 ln, .int .i64 up, .int .i64 dn, .string sc, .int .i64 wd, .int .i64 ht, .slice ca cn cc] 32))).alloc (.cells #[.int .i64 u0, .int .i64 u1] 46)).alloc (.cells #[.int .i64 d0, .int .i64 d1] 46)).alloc (.cells #[.int .i64 0, .int .i64 0] 46))
  have A1 := Lib.hid (((AtS.new_ u0 u1 46 ((w.alloc (.cells #[.string n0, .string n1, .string n2, .int .i64 kd, .int .i64 ln, .int .i64 up, .int .i64 dn, .string sc, .int .i64 wd, .int .i64 ht, .slice ca cn cc] 32)).alloc (.cells #[.int .i64 s0, .int .i64 s1] 46))).alloc (.cells #[.int .i64 d0, .int .i64 d1] 46)).alloc (.cells #[.int .i64 0, .int .i64 0] 46))
  have A2 := Lib.hid ((AtS.new_ d0 d1 46 (((w.alloc (.cells #[.string n0, .string n1, .string n2, .int .i64 kd, .int .i64 ln, .int .i64 up, .int .i64 dn, .string sc, .int .i64 wd, .int .i64 ht, .slice ca cn cc] 32)).alloc (.cells #[.int .i64 s0, .int .i64 s1] 46)).alloc (.cells #[.int .i64 u0, .int .i64 u1] 46))).alloc (.cells #[.int .i64 0, .int .i64 0] 46))
  have AR := Lib.hid (AtS.new_ 0 0 46 ((((w.alloc (.cells #[.string n0, .string n1, .string n2, .int .i64 kd, .int .i64 ln, .int .i64 up, .int .i64 dn, .string sc, .int .i64 wd, .int .i64 ht, .slice ca cn cc] 32)).alloc (.cells #[.int .i64 s0, .int .i64 s1] 46)).alloc (.cells #[.int .i64 u0, .int .i64 u1] 46)).alloc (.cells #[.int .i64 d0, .int .i64 d1] 46)))
  have hB := ((((((Below.refl w.heap.size w).alloc (Nat.le_refl _) (.cells #[.string n0, .string n1, .string n2, .int .i64 kd, .int .i64 ln, .int .i64 up, .int .i64 dn, .string sc, .int .i64 wd, .int .i64 ht, .slice ca cn cc] 32)).alloc (by simp; try omega) (.cells #[.int .i64 s0, .int .i64 s1] 46)).alloc (by simp; try omega) (.cells #[.int .i64 u0, .int .i64 u1] 46)).alloc (by simp; try omega) (.cells #[.int .i64 d0, .int .i64 d1] 46)).alloc (by simp; try omega) (.cells #[.int .i64 0, .int .i64 0] 46))
  unfold SpanOf
  generalize hg : isGateB kd up wd ht = p at *
  generalize validB s0 s1 = p0 at *
  generalize validB u0 u1 = p1 at *
  generalize validB d0 d1 = p2 at *
  cases p
  · rw [Bool.false_and, if_neg (by decide)]
    have G := Lib.hid g
    clear g hg v0 v1 v2
    go_enter Try.func31, Try.ntmps31
    go_wp2_with fail
    refine (G.out _).mono ?_
    rintro e w1 ⟨rfl, hb1⟩
    have AL_1 := Lib.hid (AL.out.below hb1)
    have A0_1 := Lib.hid (A0.out.below hb1)
    have A1_1 := Lib.hid (A1.out.below hb1)
    have A2_1 := Lib.hid (A2.out.below hb1)
    have AR_1 := Lib.hid (AR.out.below hb1)
    obtain ⟨q0, q1, z, lt⟩ := AR_1.out
    simp only [World.size_alloc] at q0 q1 z lt
    go_wp2_with fail
    refine bodyPost_ret (v := .tuple #[.agg #[.int .i64 0, .int .i64 0], .int .i64 1]) (by simp [results, Try.results31, go_sem, q0, q1]) rfl ⟨rfl, ?_⟩
    exact ((hB.trans (hb1.mono hB.size)).setCell (by simp; try omega) _).setCell (by simp; try omega) _
  · rw [Bool.true_and]
    have G := Lib.hid g
    clear g
    cases p0
    · rw [Bool.false_and, if_neg (by decide)]
      have V0 := Lib.hid v0
      clear hg v0 v1 v2
      go_enter Try.func31, Try.ntmps31
      go_wp2_with fail
      refine (G.out _).mono ?_
      rintro e w1 ⟨rfl, hb1⟩
      have AL_1 := Lib.hid (AL.out.below hb1)
      have A0_1 := Lib.hid (A0.out.below hb1)
      have A1_1 := Lib.hid (A1.out.below hb1)
      have A2_1 := Lib.hid (A2.out.below hb1)
      have AR_1 := Lib.hid (AR.out.below hb1)
      obtain ⟨qA00, qA01, zA0, lA0⟩ := A0_1.out
      simp only [World.size_alloc] at qA00 qA01 zA0 lA0
      go_wp2_with fail
      refine (V0.out _).mono ?_
      rintro e w2 ⟨rfl, hb2⟩
      have AL_2 := Lib.hid (AL_1.out.below hb2)
      have A0_2 := Lib.hid (A0_1.out.below hb2)
      have A1_2 := Lib.hid (A1_1.out.below hb2)
      have A2_2 := Lib.hid (A2_1.out.below hb2)
      have AR_2 := Lib.hid (AR_1.out.below hb2)
      clear qA00 qA01 zA0 lA0
      obtain ⟨q0, q1, z, lt⟩ := AR_2.out
      simp only [World.size_alloc] at q0 q1 z lt
      go_wp2_with fail
      refine bodyPost_ret (v := .tuple #[.agg #[.int .i64 0, .int .i64 0], .int .i64 1]) (by simp [results, Try.results31, go_sem, q0, q1]) rfl ⟨rfl, ?_⟩
      exact ((hB.trans ((below_then hb1 hb2).mono hB.size)).setCell (by simp; try omega) _).setCell (by simp; try omega) _
    · rw [Bool.true_and]
      have V0 := Lib.hid v0
      clear v0
      cases p1
      · rw [Bool.false_and, if_neg (by decide)]
        have V1 := Lib.hid v1
        clear hg v1 v2
        go_enter Try.func31, Try.ntmps31
        go_wp2_with fail
        refine (G.out _).mono ?_
        rintro e w1 ⟨rfl, hb1⟩
        have AL_1 := Lib.hid (AL.out.below hb1)
        have A0_1 := Lib.hid (A0.out.below hb1)
        have A1_1 := Lib.hid (A1.out.below hb1)
        have A2_1 := Lib.hid (A2.out.below hb1)
        have AR_1 := Lib.hid (AR.out.below hb1)
        obtain ⟨qA00, qA01, zA0, lA0⟩ := A0_1.out
        simp only [World.size_alloc] at qA00 qA01 zA0 lA0
        go_wp2_with fail
        refine (V0.out _).mono ?_
        rintro e w2 ⟨rfl, hb2⟩
        have AL_2 := Lib.hid (AL_1.out.below hb2)
        have A0_2 := Lib.hid (A0_1.out.below hb2)
        have A1_2 := Lib.hid (A1_1.out.below hb2)
        have A2_2 := Lib.hid (A2_1.out.below hb2)
        have AR_2 := Lib.hid (AR_1.out.below hb2)
        clear qA00 qA01 zA0 lA0
        obtain ⟨qA10, qA11, zA1, lA1⟩ := A1_2.out
        simp only [World.size_alloc] at qA10 qA11 zA1 lA1
        go_wp2_with fail
        refine (V1.out _).mono ?_
        rintro e w3 ⟨rfl, hb3⟩
        have AL_3 := Lib.hid (AL_2.out.below hb3)
        have A0_3 := Lib.hid (A0_2.out.below hb3)
        have A1_3 := Lib.hid (A1_2.out.below hb3)
        have A2_3 := Lib.hid (A2_2.out.below hb3)
        have AR_3 := Lib.hid (AR_2.out.below hb3)
        clear qA10 qA11 zA1 lA1
        obtain ⟨q0, q1, z, lt⟩ := AR_3.out
        simp only [World.size_alloc] at q0 q1 z lt
        go_wp2_with fail
        refine bodyPost_ret (v := .tuple #[.agg #[.int .i64 0, .int .i64 0], .int .i64 1]) (by simp [results, Try.results31, go_sem, q0, q1]) rfl ⟨rfl, ?_⟩
        exact ((hB.trans ((below_then (below_then hb1 hb2) hb3).mono hB.size)).setCell (by simp; try omega) _).setCell (by simp; try omega) _
      · rw [Bool.true_and]
        have V1 := Lib.hid v1
        clear v1
        cases p2
        · rw [if_neg (by decide)]
          have V2 := Lib.hid v2
          clear hg v2
          go_enter Try.func31, Try.ntmps31
          go_wp2_with fail
          refine (G.out _).mono ?_
          rintro e w1 ⟨rfl, hb1⟩
          have AL_1 := Lib.hid (AL.out.below hb1)
          have A0_1 := Lib.hid (A0.out.below hb1)
          have A1_1 := Lib.hid (A1.out.below hb1)
          have A2_1 := Lib.hid (A2.out.below hb1)
          have AR_1 := Lib.hid (AR.out.below hb1)
          obtain ⟨qA00, qA01, zA0, lA0⟩ := A0_1.out
          simp only [World.size_alloc] at qA00 qA01 zA0 lA0
          go_wp2_with fail
          refine (V0.out _).mono ?_
          rintro e w2 ⟨rfl, hb2⟩
          have AL_2 := Lib.hid (AL_1.out.below hb2)
          have A0_2 := Lib.hid (A0_1.out.below hb2)
          have A1_2 := Lib.hid (A1_1.out.below hb2)
          have A2_2 := Lib.hid (A2_1.out.below hb2)
          have AR_2 := Lib.hid (AR_1.out.below hb2)
          clear qA00 qA01 zA0 lA0
          obtain ⟨qA10, qA11, zA1, lA1⟩ := A1_2.out
          simp only [World.size_alloc] at qA10 qA11 zA1 lA1
          go_wp2_with fail
          refine (V1.out _).mono ?_
          rintro e w3 ⟨rfl, hb3⟩
          have AL_3 := Lib.hid (AL_2.out.below hb3)
          have A0_3 := Lib.hid (A0_2.out.below hb3)
          have A1_3 := Lib.hid (A1_2.out.below hb3)
          have A2_3 := Lib.hid (A2_2.out.below hb3)
          have AR_3 := Lib.hid (AR_2.out.below hb3)
          clear qA10 qA11 zA1 lA1
          obtain ⟨qA20, qA21, zA2, lA2⟩ := A2_3.out
          simp only [World.size_alloc] at qA20 qA21 zA2 lA2
          go_wp2_with fail
          refine (V2.out _).mono ?_
          rintro e w4 ⟨rfl, hb4⟩
          have AL_4 := Lib.hid (AL_3.out.below hb4)
          have A0_4 := Lib.hid (A0_3.out.below hb4)
          have A1_4 := Lib.hid (A1_3.out.below hb4)
          have A2_4 := Lib.hid (A2_3.out.below hb4)
          have AR_4 := Lib.hid (AR_3.out.below hb4)
          clear qA20 qA21 zA2 lA2
          obtain ⟨q0, q1, z, lt⟩ := AR_4.out
          simp only [World.size_alloc] at q0 q1 z lt
          go_wp2_with fail
          refine bodyPost_ret (v := .tuple #[.agg #[.int .i64 0, .int .i64 0], .int .i64 1]) (by simp [results, Try.results31, go_sem, q0, q1]) rfl ⟨rfl, ?_⟩
          exact ((hB.trans ((below_then (below_then (below_then hb1 hb2) hb3) hb4).mono hB.size)).setCell (by simp; try omega) _).setCell (by simp; try omega) _
        · rw [if_pos rfl]
          have V2 := Lib.hid v2
          clear v2
          have c1 := fun W => Gate_calls n0 n1 n2 sc kd ln up dn wd ht ca cn cc s0 u0 d1 W
          have c2 := fun W => Gate_calls n0 n1 n2 sc kd ln up dn wd ht ca cn cc s1 u1 d0 W
          generalize GateV kd up wd ht s0 u0 d1 = x at *
          generalize GateV kd up wd ht s1 u1 d0 = y at *
          have en := fun W => ends_calls x y W
          generalize EndsV x y = s at *
          obtain ⟨x1, x2⟩ := x
          obtain ⟨y1, y2⟩ := y
          obtain ⟨⟨r1, r2⟩, r3⟩ := s
          have C1 := Lib.hid c1
          have C2 := Lib.hid c2
          have EN := Lib.hid en
          clear c1 c2 en hg
          go_enter Try.func31, Try.ntmps31
          go_wp2_with fail
          refine (G.out _).mono ?_
          rintro e w1 ⟨rfl, hb1⟩
          have AL_1 := Lib.hid (AL.out.below hb1)
          have A0_1 := Lib.hid (A0.out.below hb1)
          have A1_1 := Lib.hid (A1.out.below hb1)
          have A2_1 := Lib.hid (A2.out.below hb1)
          have AR_1 := Lib.hid (AR.out.below hb1)
          obtain ⟨qA00, qA01, zA0, lA0⟩ := A0_1.out
          simp only [World.size_alloc] at qA00 qA01 zA0 lA0
          go_wp2_with fail
          refine (V0.out _).mono ?_
          rintro e w2 ⟨rfl, hb2⟩
          have AL_2 := Lib.hid (AL_1.out.below hb2)
          have A0_2 := Lib.hid (A0_1.out.below hb2)
          have A1_2 := Lib.hid (A1_1.out.below hb2)
          have A2_2 := Lib.hid (A2_1.out.below hb2)
          have AR_2 := Lib.hid (AR_1.out.below hb2)
          clear qA00 qA01 zA0 lA0
          obtain ⟨qA10, qA11, zA1, lA1⟩ := A1_2.out
          simp only [World.size_alloc] at qA10 qA11 zA1 lA1
          go_wp2_with fail
          refine (V1.out _).mono ?_
          rintro e w3 ⟨rfl, hb3⟩
          have AL_3 := Lib.hid (AL_2.out.below hb3)
          have A0_3 := Lib.hid (A0_2.out.below hb3)
          have A1_3 := Lib.hid (A1_2.out.below hb3)
          have A2_3 := Lib.hid (A2_2.out.below hb3)
          have AR_3 := Lib.hid (AR_2.out.below hb3)
          clear qA10 qA11 zA1 lA1
          obtain ⟨qA20, qA21, zA2, lA2⟩ := A2_3.out
          simp only [World.size_alloc] at qA20 qA21 zA2 lA2
          go_wp2_with fail
          refine (V2.out _).mono ?_
          rintro e w4 ⟨rfl, hb4⟩
          have AL_4 := Lib.hid (AL_3.out.below hb4)
          have A0_4 := Lib.hid (A0_3.out.below hb4)
          have A1_4 := Lib.hid (A1_3.out.below hb4)
          have A2_4 := Lib.hid (A2_3.out.below hb4)
          have AR_4 := Lib.hid (AR_3.out.below hb4)
          clear qA20 qA21 zA2 lA2
          obtain ⟨f0, f1, f2, f3, f4, f5, f6, f7, f8, f9, f10, fl⟩ := AL_4.out
          obtain ⟨qA00, qA01, zA0, lA0⟩ := A0_4.out
          simp only [World.size_alloc] at qA00 qA01 zA0 lA0
          obtain ⟨qA10, qA11, zA1, lA1⟩ := A1_4.out
          simp only [World.size_alloc] at qA10 qA11 zA1 lA1
          obtain ⟨qA20, qA21, zA2, lA2⟩ := A2_4.out
          simp only [World.size_alloc] at qA20 qA21 zA2 lA2
          go_wp2_with fail
          refine (C1.out _).mono ?_
          rintro e w5 ⟨rfl, hb5⟩
          have AL_5 := Lib.hid (AL_4.out.below hb5)
          have A0_5 := Lib.hid (A0_4.out.below hb5)
          have A1_5 := Lib.hid (A1_4.out.below hb5)
          have A2_5 := Lib.hid (A2_4.out.below hb5)
          have AR_5 := Lib.hid (AR_4.out.below hb5)
          clear f0 f1 f2 f3 f4 f5 f6 f7 f8 f9 f10 fl
          clear qA00 qA01 zA0 lA0
          clear qA10 qA11 zA1 lA1
          clear qA20 qA21 zA2 lA2
          obtain ⟨f0, f1, f2, f3, f4, f5, f6, f7, f8, f9, f10, fl⟩ := AL_5.out
          obtain ⟨qA00, qA01, zA0, lA0⟩ := A0_5.out
          simp only [World.size_alloc] at qA00 qA01 zA0 lA0
          obtain ⟨qA10, qA11, zA1, lA1⟩ := A1_5.out
          simp only [World.size_alloc] at qA10 qA11 zA1 lA1
          obtain ⟨qA20, qA21, zA2, lA2⟩ := A2_5.out
          simp only [World.size_alloc] at qA20 qA21 zA2 lA2
          go_wp2_with fail
          refine (C2.out _).mono ?_
          rintro e w6 ⟨rfl, hb6⟩
          have AL_6 := Lib.hid (AL_5.out.below hb6)
          have A0_6 := Lib.hid (A0_5.out.below hb6)
          have A1_6 := Lib.hid (A1_5.out.below hb6)
          have A2_6 := Lib.hid (A2_5.out.below hb6)
          have AR_6 := Lib.hid (AR_5.out.below hb6)
          clear f0 f1 f2 f3 f4 f5 f6 f7 f8 f9 f10 fl
          clear qA00 qA01 zA0 lA0
          clear qA10 qA11 zA1 lA1
          clear qA20 qA21 zA2 lA2
          go_wp2_with fail
          refine (EN.out _).mono ?_
          rintro e w7 ⟨rfl, hb7⟩
          have AL_7 := Lib.hid (AL_6.out.below hb7)
          have A0_7 := Lib.hid (A0_6.out.below hb7)
          have A1_7 := Lib.hid (A1_6.out.below hb7)
          have A2_7 := Lib.hid (A2_6.out.below hb7)
          have AR_7 := Lib.hid (AR_6.out.below hb7)
          obtain ⟨q0, q1, z, lt⟩ := AR_7.out
          simp only [World.size_alloc] at q0 q1 z lt
          go_wp2_with fail
          refine bodyPost_ret (v := .tuple #[.agg #[.int .i64 r1, .int .i64 r2], .int .i64 r3]) (by simp [results, Try.results31, go_sem, q0, q1]) rfl ⟨rfl, ?_⟩
          exact ((hB.trans ((below_then (below_then (below_then (below_then (below_then (below_then hb1 hb2) hb3) hb4) hb5) hb6) hb7).mono hB.size)).setCell (by simp; try omega) _).setCell (by simp; try omega) _
end Go.Proofs.Ytfalmbcnbomaoaa
