/- the law OpeningsGrow at a weir -/
import Derived.Test.YtfalmbcnbomaoaaW9
import Derived.Deep.DeepCutAuto
import Derived.Deep.CutRange
namespace Go.Proofs.Ytfalmbcnbomaoaa
open Go.Proofs.Ytfalmbcnbomaoaa.DivLaw Go.Proofs.Ytfalmbcnbomaoaa.Open Go.RowKit
set_option linter.unusedVariables false

set_option maxRecDepth 100000 in
set_option maxHeartbeats 64000000 in
theorem Grow_weir (n0 n1 n2 sc : ByteArray) (kd ln up dn wd ht : Int) (ca : Option Addr) (cn cc : Nat) (width area head s a b n : Int) (hn0 : 0 ≤ n) (hn1 : n ≤ 65535) (c0 : 1 ≤ width) (c1 : width ≤ 1048576 - n) (c2 : 0 ≤ area) (c3 : area ≤ 1073741824 - n) (c4 : 0 ≤ head) (c5 : head ≤ 1048576 - n) (ha : levelB a = true) (hb : levelB b = true) (t0 : a ≤ 4194304 - n) (t1 : b ≤ 4194304 - n) (t2 : 0 ≤ s) (t3 : s ≤ 1000) (hw : isWeirB kd up wd = true) (w : World) :
    Calls Try.prog 6 #[.agg #[.string n0, .string n1, .string n2, .int .i64 kd, .int .i64 ln, .int .i64 up, .int .i64 dn, .string sc, .int .i64 wd, .int .i64 ht, .slice ca cn cc], .int .i64 width, .int .i64 area, .int .i64 head, .int .i64 s, .int .i64 a, .int .i64 b, .int .u16 n] w fun e w' => e = .returned (.bool true) ∧ Below w.heap.size w w' := by
  have HA := Lib.hid ha
  have HB := Lib.hid hb
  have HW := Lib.hid hw
  have TT := Lib.hid (And.intro t0 (And.intro t1 (And.intro t2 t3)))
  clear ha hb hw t0 t1 t2 t3
  have d0 : ¬ width < 1 := by omega
  have d1 : ¬ 1048576 - n < width := by omega
  have d2 : ¬ area < 0 := by omega
  have d3 : ¬ 1073741824 - n < area := by omega
  have d4 : ¬ head < 0 := by omega
  have d5 : ¬ 1048576 - n < head := by omega
  have u1 := up3 _ _ _ (wq_mono width head (width + n) head (by omega) (by omega) (by omega) (by omega)) (wq_mono width head width (head + n) (by omega) (by omega) (by omega) (by omega))
  have u2 := up3 _ _ _ (oq_mono area head (area + n) head (by omega) (by omega) (by omega) (by omega)) (oq_mono area head area (head + n) (by omega) (by omega) (by omega) (by omega))
  have w0 := fun W => Weir_calls width head W
  have w1 := fun W => Weir_calls (width + n) head W
  have w2 := fun W => Weir_calls width (head + n) W
  have o0 := fun W => Orifice_calls area head W
  have o1 := fun W => Orifice_calls (area + n) head W
  have o2 := fun W => Orifice_calls area (head + n) W
  rw [WeirV_in (by omega) (by omega) (by omega) (by omega)] at w0 w1 w2
  rw [OrificeV_in (by omega) (by omega) (by omega) (by omega)] at o0 o1 o2
  generalize flowV (wq width head) = x0 at *
  generalize flowV (wq (width + n) head) = x1 at *
  generalize flowV (wq width (head + n)) = x2 at *
  generalize flowV (oq area head) = y0 at *
  generalize flowV (oq (area + n) head) = y1 at *
  generalize flowV (oq area (head + n)) = y2 at *
  obtain ⟨x0a, x0e⟩ := x0
  obtain ⟨x1a, x1e⟩ := x1
  obtain ⟨x2a, x2e⟩ := x2
  obtain ⟨y0a, y0e⟩ := y0
  obtain ⟨y1a, y1e⟩ := y1
  obtain ⟨y2a, y2e⟩ := y2
  have W0 := Lib.hid w0
  have W1 := Lib.hid w1
  have W2 := Lib.hid w2
  have O0 := Lib.hid o0
  have O1 := Lib.hid o1
  have O2 := Lib.hid o2
  have U1 := Lib.hid u1
  have U2 := Lib.hid u2
  simp only at U1 U2
  clear w0 w1 w2 o0 o1 o2 u1 u2
  clear c0 c2 c4
  have A0 := Lib.hid (AtL.new_ n0 n1 n2 sc kd ln up dn wd ht ca cn cc w)
  go_enter Try.func6, Try.ntmps6
  go_wp2_with fail
  refine (awake_calls _).mono ?_
  rintro e v1 ⟨rfl, hb1⟩
  go_wp2_with fail
  refine (W0.out _).mono ?_
  rintro e v2 ⟨rfl, hb2⟩
  go_wp2_with fail
  refine (W1.out _).mono ?_
  rintro e v3 ⟨rfl, hb3⟩
  go_wp2_with fail
  refine (W2.out _).mono ?_
  rintro e v4 ⟨rfl, hb4⟩
  go_upto_region 9 with fail
  go_cut [112] (fun t wx => t = .bool false ∧ v4 = wx)
  case first =>
    as_aux_lemma =>
    rcases U1.out with ⟨i1, i2, i3⟩ | ⟨i1, i2 | ⟨i2, i4⟩, i3 | ⟨i3, i5⟩⟩
    · have k1 : ((x0e : Int) == 0) = false := (by rw [beq_eq_false_iff_ne]; omega)
      have k2 : ((x0e : Int) == 5) = true := (by rw [beq_iff_eq]; omega)
      have k3 : ((x1e : Int) == 0) = false := (by rw [beq_eq_false_iff_ne]; omega)
      have k4 : ((x2e : Int) == 0) = false := (by rw [beq_eq_false_iff_ne]; omega)
      clear i1 i2 i3
      go_wp2_with fail
      go_meet
      exact ⟨rfl, rfl⟩
    · have k1 : ((x0e : Int) == 0) = true := (by rw [beq_iff_eq]; omega)
      have k2 : ((x0e : Int) == 5) = false := (by rw [beq_eq_false_iff_ne]; omega)
      have k3 : ((x1e : Int) == 0) = false := (by rw [beq_eq_false_iff_ne]; omega)
      have k4 : ((x2e : Int) == 0) = false := (by rw [beq_eq_false_iff_ne]; omega)
      clear i1 i2 i3
      go_wp2_with fail
      go_meet
      exact ⟨rfl, rfl⟩
    · have k1 : ((x0e : Int) == 0) = true := (by rw [beq_iff_eq]; omega)
      have k2 : ((x0e : Int) == 5) = false := (by rw [beq_eq_false_iff_ne]; omega)
      have k3 : ((x1e : Int) == 0) = false := (by rw [beq_eq_false_iff_ne]; omega)
      have k4 : ((x2e : Int) == 0) = true := (by rw [beq_iff_eq]; omega)
      have k5 : ¬ x2a < x0a := by omega
      clear i1 i2 i3 i5
      go_wp2_with fail
      go_meet
      exact ⟨rfl, rfl⟩
    · have k1 : ((x0e : Int) == 0) = true := (by rw [beq_iff_eq]; omega)
      have k2 : ((x0e : Int) == 5) = false := (by rw [beq_eq_false_iff_ne]; omega)
      have k3 : ((x1e : Int) == 0) = true := (by rw [beq_iff_eq]; omega)
      have k4 : ((x2e : Int) == 0) = false := (by rw [beq_eq_false_iff_ne]; omega)
      have k5 : ¬ x1a < x0a := by omega
      clear i1 i2 i4 i3
      go_wp2_with fail
      go_meet
      exact ⟨rfl, rfl⟩
    · have k1 : ((x0e : Int) == 0) = true := (by rw [beq_iff_eq]; omega)
      have k2 : ((x0e : Int) == 5) = false := (by rw [beq_eq_false_iff_ne]; omega)
      have k3 : ((x1e : Int) == 0) = true := (by rw [beq_iff_eq]; omega)
      have k4 : ((x2e : Int) == 0) = true := (by rw [beq_iff_eq]; omega)
      have k5 : ¬ x1a < x0a := by omega
      have k6 : ¬ x2a < x0a := by omega
      clear i1 i2 i4 i3 i5
      go_wp2_with fail
      go_meet
      exact ⟨rfl, rfl⟩
  case rest =>
  as_aux_lemma =>
  obtain ⟨rfl, rfl⟩ := hcut
  go_wp2_with fail
  refine (O0.out _).mono ?_
  rintro e v5 ⟨rfl, hb5⟩
  go_wp2_with fail
  refine (O1.out _).mono ?_
  rintro e v6 ⟨rfl, hb6⟩
  go_wp2_with fail
  refine (O2.out _).mono ?_
  rintro e v7 ⟨rfl, hb7⟩
  go_upto_region 14 with fail
  go_cut [166] (fun t wx => t = .bool false ∧ v7 = wx)
  case first =>
    as_aux_lemma =>
    rcases U2.out with ⟨i1, i2, i3⟩ | ⟨i1, i2 | ⟨i2, i4⟩, i3 | ⟨i3, i5⟩⟩
    · have k1 : ((y0e : Int) == 0) = false := (by rw [beq_eq_false_iff_ne]; omega)
      have k2 : ((y0e : Int) == 5) = true := (by rw [beq_iff_eq]; omega)
      have k3 : ((y1e : Int) == 0) = false := (by rw [beq_eq_false_iff_ne]; omega)
      have k4 : ((y2e : Int) == 0) = false := (by rw [beq_eq_false_iff_ne]; omega)
      clear i1 i2 i3
      go_wp2_with fail
      go_meet
      exact ⟨rfl, rfl⟩
    · have k1 : ((y0e : Int) == 0) = true := (by rw [beq_iff_eq]; omega)
      have k2 : ((y0e : Int) == 5) = false := (by rw [beq_eq_false_iff_ne]; omega)
      have k3 : ((y1e : Int) == 0) = false := (by rw [beq_eq_false_iff_ne]; omega)
      have k4 : ((y2e : Int) == 0) = false := (by rw [beq_eq_false_iff_ne]; omega)
      clear i1 i2 i3
      go_wp2_with fail
      go_meet
      exact ⟨rfl, rfl⟩
    · have k1 : ((y0e : Int) == 0) = true := (by rw [beq_iff_eq]; omega)
      have k2 : ((y0e : Int) == 5) = false := (by rw [beq_eq_false_iff_ne]; omega)
      have k3 : ((y1e : Int) == 0) = false := (by rw [beq_eq_false_iff_ne]; omega)
      have k4 : ((y2e : Int) == 0) = true := (by rw [beq_iff_eq]; omega)
      have k5 : ¬ y2a < y0a := by omega
      clear i1 i2 i3 i5
      go_wp2_with fail
      go_meet
      exact ⟨rfl, rfl⟩
    · have k1 : ((y0e : Int) == 0) = true := (by rw [beq_iff_eq]; omega)
      have k2 : ((y0e : Int) == 5) = false := (by rw [beq_eq_false_iff_ne]; omega)
      have k3 : ((y1e : Int) == 0) = true := (by rw [beq_iff_eq]; omega)
      have k4 : ((y2e : Int) == 0) = false := (by rw [beq_eq_false_iff_ne]; omega)
      have k5 : ¬ y1a < y0a := by omega
      clear i1 i2 i4 i3
      go_wp2_with fail
      go_meet
      exact ⟨rfl, rfl⟩
    · have k1 : ((y0e : Int) == 0) = true := (by rw [beq_iff_eq]; omega)
      have k2 : ((y0e : Int) == 5) = false := (by rw [beq_eq_false_iff_ne]; omega)
      have k3 : ((y1e : Int) == 0) = true := (by rw [beq_iff_eq]; omega)
      have k4 : ((y2e : Int) == 0) = true := (by rw [beq_iff_eq]; omega)
      have k5 : ¬ y1a < y0a := by omega
      have k6 : ¬ y2a < y0a := by omega
      clear i1 i2 i4 i3 i5
      go_wp2_with fail
      go_meet
      exact ⟨rfl, rfl⟩
  case rest =>
  as_aux_lemma =>
  obtain ⟨rfl, rfl⟩ := hcut
  have hB7 : Below w.heap.size w v7 := below_then ((Below.refl _ w).alloc (Nat.le_refl _) _) (below_then (below_then (below_then (below_then (below_then (below_then hb1 hb2) hb3) hb4) hb5) hb6) hb7)
  have A7 := Lib.hid ((((((((A0.out.below hb1).below hb2).below hb3).below hb4).below hb5).below hb6).below hb7))
  clear A0 hb1 hb2 hb3 hb4 hb5 hb6 hb7 U1 U2 W0 W1 W2 O0 O1 O2 d0 d1 d2 d3 d4 d5 c1 c3 c5
  have lu := fun W => Level_ref a W
  have ld := fun W => Level_ref b W
  rw [HA.out] at lu
  rw [HB.out] at ld
  have LU := Lib.hid lu
  have LD := Lib.hid ld
  obtain ⟨pa1, pa2⟩ := levelB_range HA.out
  obtain ⟨pb1, pb2⟩ := levelB_range HB.out
  clear lu ld
  go_wp2_with fail
  refine (LU.out _).mono ?_
  rintro e v8 ⟨rfl, rfl⟩
  go_wp2_with fail
  refine (LD.out _).mono ?_
  rintro e v8 ⟨rfl, rfl⟩
  obtain ⟨t0, t1, t2, t3⟩ := TT.out
  have e0 : ¬ 4194304 - n < a := by omega
  have e1 : ¬ 4194304 - n < b := by omega
  have e2 : ¬ s < 0 := by omega
  have e3 : ¬ 1000 < s := by omega
  obtain ⟨f0, f1, f2, f3, f4, f5, f6, f7, f8, f9, f10, fl⟩ := A7.out
  have iw := fun W => IsWeir_ref n0 n1 n2 sc kd ln up dn wd ht ca cn cc W
  have ig := fun W => IsGate_ref n0 n1 n2 sc kd ln up dn wd ht ca cn cc W
  rw [HW.out] at iw
  rw [kinds (ht := ht) HW.out] at ig
  have IW := Lib.hid iw
  have IG := Lib.hid ig
  clear iw ig
  obtain ⟨p1, p2, p3, p4⟩ := isWeirB_parts _ _ _ HW.out
  have HA1 := levelB_of (n := a + n) (by omega) (by omega)
  have HB1 := levelB_of (n := b + n) (by omega) (by omega)
  have r0 := fun W => Over_calls n0 n1 n2 sc kd ln up dn wd ht ca cn cc a b W
  have r1 := fun W => Over_calls n0 n1 n2 sc kd ln up dn wd ht ca cn cc (a + n) b W
  have r2 := fun W => Over_calls n0 n1 n2 sc kd ln up dn wd ht ca cn cc a (b + n) W
  rw [OverV_in HW.out HA.out HB.out] at r0
  rw [OverV_in HW.out HA1 HB.out] at r1
  rw [OverV_in HW.out HA.out HB1] at r2
  have way := way_of (capW_up (wd := wd) p4 (show headV up a b ≤ headV up (a + n) b by unfold headV; omega)) (capW_down (wd := wd) p4 (show headV up a (b + n) ≤ headV up a b by unfold headV; omega))
  have zer : a ≤ b ∨ a ≤ up → capW wd (headV up a b) = (0, 0) := fun h => by rw [headV_zero h]; exact capW_zero wd
  generalize capW wd (headV up a b) = z0 at *
  generalize capW wd (headV up (a + n) b) = z1 at *
  generalize capW wd (headV up a (b + n)) = z2 at *
  obtain ⟨z0a, z0e⟩ := z0
  obtain ⟨z1a, z1e⟩ := z1
  obtain ⟨z2a, z2e⟩ := z2
  simp only at r0 r1 r2 way
  have R0 := Lib.hid r0
  have R1 := Lib.hid r1
  have R2 := Lib.hid r2
  have WAY := Lib.hid way
  have ZER := Lib.hid zer
  clear r0 r1 r2 way zer HA1 HB1 p1 p2 p3 p4
  go_wp2_with fail
  refine (IW.out _).mono ?_
  rintro e v8 ⟨rfl, rfl⟩
  have A8 := Lib.hid (A7.out.alloc (.cells #[.string n0, .string n1, .string n2, .int .i64 kd, .int .i64 ln, .int .i64 up, .int .i64 dn, .string sc, .int .i64 wd, .int .i64 ht, .slice ca cn cc] 32))
  have hB8 := hB7.alloc hB7.size (.cells #[.string n0, .string n1, .string n2, .int .i64 kd, .int .i64 ln, .int .i64 up, .int .i64 dn, .string sc, .int .i64 wd, .int .i64 ht, .slice ca cn cc] 32)
  clear f0 f1 f2 f3 f4 f5 f6 f7 f8 f9 f10 fl
  obtain ⟨f0, f1, f2, f3, f4, f5, f6, f7, f8, f9, f10, fl⟩ := A8.out
  go_wp2_with fail
  refine (R0.out _).mono ?_
  rintro e v9 ⟨rfl, hb9⟩
  have A9 := Lib.hid (A8.out.below hb9)
  clear f0 f1 f2 f3 f4 f5 f6 f7 f8 f9 f10 fl
  obtain ⟨f0, f1, f2, f3, f4, f5, f6, f7, f8, f9, f10, fl⟩ := A9.out
  go_wp2_with fail
  refine (R1.out _).mono ?_
  rintro e v10 ⟨rfl, hb10⟩
  have A10 := Lib.hid (A9.out.below hb10)
  clear f0 f1 f2 f3 f4 f5 f6 f7 f8 f9 f10 fl
  obtain ⟨f0, f1, f2, f3, f4, f5, f6, f7, f8, f9, f10, fl⟩ := A10.out
  go_wp2_with fail
  refine (R2.out _).mono ?_
  rintro e v11 ⟨rfl, hb11⟩
  have A11 := Lib.hid (A10.out.below hb11)
  have hB11 : Below w.heap.size w v11 := below_then hB8 (below_then (below_then hb9 hb10) hb11)
  clear f0 f1 f2 f3 f4 f5 f6 f7 f8 f9 f10 fl
  clear hb9 hb10 hb11 hB7 hB8
  go_upto_region 22 with fail
  go_cut [241] (fun t wx => t = .bool false ∧ v11 = wx)
  case first =>
    as_aux_lemma =>
    rcases WAY.out with i1 | ⟨i1, i2 | ⟨i2, i4⟩, i3, i5⟩
    · have k1 : ((z0e : Int) == 0) = false := (by rw [beq_eq_false_iff_ne]; omega)
      clear i1
      go_wp2_with fail
      go_meet
      exact ⟨rfl, rfl⟩
    · have k1 : ((z0e : Int) == 0) = true := (by rw [beq_iff_eq]; omega)
      have k3 : ((z1e : Int) == 0) = false := (by rw [beq_eq_false_iff_ne]; omega)
      have k4 : ((z2e : Int) == 0) = true := (by rw [beq_iff_eq]; omega)
      have k4b : ((z2e : Int) != 0) = false := by rw [bne_eq_false_iff_eq]; omega
      have k5 : ¬ z0a < z2a := by omega
      clear i1 i2 i3 i5
      go_wp2_with fail
      go_meet
      exact ⟨rfl, rfl⟩
    · have k1 : ((z0e : Int) == 0) = true := (by rw [beq_iff_eq]; omega)
      have k3 : ((z1e : Int) == 0) = true := (by rw [beq_iff_eq]; omega)
      have k4 : ((z2e : Int) == 0) = true := (by rw [beq_iff_eq]; omega)
      have k4b : ((z2e : Int) != 0) = false := by rw [bne_eq_false_iff_eq]; omega
      have k5 : ¬ z0a < z2a := by omega
      have k6 : ¬ z1a < z0a := by omega
      clear i1 i2 i4 i3 i5
      go_wp2_with fail
      go_meet
      exact ⟨rfl, rfl⟩
  case rest =>
  as_aux_lemma =>
  obtain ⟨rfl, rfl⟩ := hcut
  obtain ⟨f0, f1, f2, f3, f4, f5, f6, f7, f8, f9, f10, fl⟩ := A11.out
  by_cases z1 : a ≤ b
  · have zz := ZER.out (.inl z1)
    rw [Prod.mk.injEq] at zz
    have k1 : ((z0e : Int) == 0) = true := by rw [beq_iff_eq]; exact zz.2
    have k2 : ((z0a : Int) == 0) = true := by rw [beq_iff_eq]; exact zz.1
    clear zz
    go_wp2_with fail
    go_returns
    exact ⟨rfl, hB11⟩
  · by_cases z2 : a ≤ up
    · have zz := ZER.out (.inr z2)
      rw [Prod.mk.injEq] at zz
      have k1 : ((z0e : Int) == 0) = true := by rw [beq_iff_eq]; exact zz.2
      have k2 : ((z0a : Int) == 0) = true := by rw [beq_iff_eq]; exact zz.1
      clear zz
      go_wp2_with fail
      go_returns
      exact ⟨rfl, hB11⟩
    · go_wp2_with fail
      refine (IG.out _).mono ?_
      rintro e v12 ⟨rfl, rfl⟩
      go_wp2_with fail
      go_returns
      exact ⟨rfl, hB11.alloc hB11.size _⟩
end Go.Proofs.Ytfalmbcnbomaoaa
