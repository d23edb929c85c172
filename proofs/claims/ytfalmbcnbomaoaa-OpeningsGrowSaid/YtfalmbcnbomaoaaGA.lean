/- the law OpeningsGrow where no link is asked -/
import Derived.Test.YtfalmbcnbomaoaaW9
import Derived.Deep.DeepCutAuto
import Derived.Deep.CutRange
namespace Go.Proofs.Ytfalmbcnbomaoaa
open Go.Proofs.Ytfalmbcnbomaoaa.DivLaw Go.Proofs.Ytfalmbcnbomaoaa.Open Go.RowKit
set_option linter.unusedVariables false

set_option maxRecDepth 100000 in
set_option maxHeartbeats 64000000 in
theorem Grow_no (n0 n1 n2 sc : ByteArray) (kd ln up dn wd ht : Int) (ca : Option Addr) (cn cc : Nat) (width area head s a b n : Int) (hn0 : 0 ≤ n) (hn1 : n ≤ 65535) (c0 : 1 ≤ width) (c1 : width ≤ 1048576 - n) (c2 : 0 ≤ area) (c3 : area ≤ 1073741824 - n) (c4 : 0 ≤ head) (c5 : head ≤ 1048576 - n) (hk : levelB a = true → levelB b = true → a ≤ 4194304 - n → b ≤ 4194304 - n → 0 ≤ s → s ≤ 1000 → isWeirB kd up wd = false ∧ isGateB kd up wd ht = false) (w : World) :
    Calls Try.prog 6 #[.agg #[.string n0, .string n1, .string n2, .int .i64 kd, .int .i64 ln, .int .i64 up, .int .i64 dn, .string sc, .int .i64 wd, .int .i64 ht, .slice ca cn cc], .int .i64 width, .int .i64 area, .int .i64 head, .int .i64 s, .int .i64 a, .int .i64 b, .int .u16 n] w fun e w' => e = .returned (.bool true) ∧ Below w.heap.size w w' := by
  have HK := Lib.hid hk
  clear hk
  have d0 : ¬ width < 1 := by omega
  have d1 : ¬ 1048576 - n < width := by omega
  have d2 : ¬ area < 0 := by omega
  have d3 : ¬ 1073741824 - n < area := by omega
  have d4 : ¬ head < 0 := by omega
  have d5 : ¬ 1048576 - n < head := by omega
  have u1 := up3 _ _ _ (wq_mono width head (width + n) head (by omega) (by omega) (by omega) (by omega)) (wq_mono width head width (head + n) (by omega) (by omega) (by omega) (by omega))
  have u2 := up3 _ _ _ (oq_mono area head (area + n) head (by omega) (by omega) (by omega) (by omega)) (oq_mono area head area (head + n) (by omega) (by omega) (by omega) (by omega))
  have w0 := fun W => Weir_calls width head W
  have w1 := fun W => Weir_calls (width + n) head W
  have w2 := fun W => Weir_calls width (head + n) W
  have o0 := fun W => Orifice_calls area head W
  have o1 := fun W => Orifice_calls (area + n) head W
  have o2 := fun W => Orifice_calls area (head + n) W
  rw [WeirV_in (by omega) (by omega) (by omega) (by omega)] at w0 w1 w2
  rw [OrificeV_in (by omega) (by omega) (by omega) (by omega)] at o0 o1 o2
  generalize flowV (wq width head) = x0 at *
  generalize flowV (wq (width + n) head) = x1 at *
  generalize flowV (wq width (head + n)) = x2 at *
  generalize flowV (oq area head) = y0 at *
  generalize flowV (oq (area + n) head) = y1 at *
  generalize flowV (oq area (head + n)) = y2 at *
  obtain ⟨x0a, x0e⟩ := x0
  obtain ⟨x1a, x1e⟩ := x1
  obtain ⟨x2a, x2e⟩ := x2
  obtain ⟨y0a, y0e⟩ := y0
  obtain ⟨y1a, y1e⟩ := y1
  obtain ⟨y2a, y2e⟩ := y2
  have W0 := Lib.hid w0
  have W1 := Lib.hid w1
  have W2 := Lib.hid w2
  have O0 := Lib.hid o0
  have O1 := Lib.hid o1
  have O2 := Lib.hid o2
  have U1 := Lib.hid u1
  have U2 := Lib.hid u2
  simp only at U1 U2
  clear w0 w1 w2 o0 o1 o2 u1 u2
  clear c0 c2 c4
  have A0 := Lib.hid (AtL.new_ n0 n1 n2 sc kd ln up dn wd ht ca cn cc w)
  go_enter Try.func6, Try.ntmps6
  go_wp2_with fail
  refine (awake_calls _).mono ?_
  rintro e v1 ⟨rfl, hb1⟩
  go_wp2_with fail
  refine (W0.out _).mono ?_
  rintro e v2 ⟨rfl, hb2⟩
  go_wp2_with fail
  refine (W1.out _).mono ?_
  rintro e v3 ⟨rfl, hb3⟩
  go_wp2_with fail
  refine (W2.out _).mono ?_
  rintro e v4 ⟨rfl, hb4⟩
  go_upto_region 9 with fail
  go_cut [112] (fun t wx => t = .bool false ∧ v4 = wx)
  case first =>
    as_aux_lemma =>
    rcases U1.out with ⟨i1, i2, i3⟩ | ⟨i1, i2 | ⟨i2, i4⟩, i3 | ⟨i3, i5⟩⟩
    · have k1 : ((x0e : Int) == 0) = false := (by rw [beq_eq_false_iff_ne]; omega)
      have k2 : ((x0e : Int) == 5) = true := (by rw [beq_iff_eq]; omega)
      have k3 : ((x1e : Int) == 0) = false := (by rw [beq_eq_false_iff_ne]; omega)
      have k4 : ((x2e : Int) == 0) = false := (by rw [beq_eq_false_iff_ne]; omega)
      clear i1 i2 i3
      go_wp2_with fail
      go_meet
      exact ⟨rfl, rfl⟩
    · have k1 : ((x0e : Int) == 0) = true := (by rw [beq_iff_eq]; omega)
      have k2 : ((x0e : Int) == 5) = false := (by rw [beq_eq_false_iff_ne]; omega)
      have k3 : ((x1e : Int) == 0) = false := (by rw [beq_eq_false_iff_ne]; omega)
      have k4 : ((x2e : Int) == 0) = false := (by rw [beq_eq_false_iff_ne]; omega)
      clear i1 i2 i3
      go_wp2_with fail
      go_meet
      exact ⟨rfl, rfl⟩
    · have k1 : ((x0e : Int) == 0) = true := (by rw [beq_iff_eq]; omega)
      have k2 : ((x0e : Int) == 5) = false := (by rw [beq_eq_false_iff_ne]; omega)
      have k3 : ((x1e : Int) == 0) = false := (by rw [beq_eq_false_iff_ne]; omega)
      have k4 : ((x2e : Int) == 0) = true := (by rw [beq_iff_eq]; omega)
      have k5 : ¬ x2a < x0a := by omega
      clear i1 i2 i3 i5
      go_wp2_with fail
      go_meet
      exact ⟨rfl, rfl⟩
    · have k1 : ((x0e : Int) == 0) = true := (by rw [beq_iff_eq]; omega)
      have k2 : ((x0e : Int) == 5) = false := (by rw [beq_eq_false_iff_ne]; omega)
      have k3 : ((x1e : Int) == 0) = true := (by rw [beq_iff_eq]; omega)
      have k4 : ((x2e : Int) == 0) = false := (by rw [beq_eq_false_iff_ne]; omega)
      have k5 : ¬ x1a < x0a := by omega
      clear i1 i2 i4 i3
      go_wp2_with fail
      go_meet
      exact ⟨rfl, rfl⟩
    · have k1 : ((x0e : Int) == 0) = true := (by rw [beq_iff_eq]; omega)
      have k2 : ((x0e : Int) == 5) = false := (by rw [beq_eq_false_iff_ne]; omega)
      have k3 : ((x1e : Int) == 0) = true := (by rw [beq_iff_eq]; omega)
      have k4 : ((x2e : Int) == 0) = true := (by rw [beq_iff_eq]; omega)
      have k5 : ¬ x1a < x0a := by omega
      have k6 : ¬ x2a < x0a := by omega
      clear i1 i2 i4 i3 i5
      go_wp2_with fail
      go_meet
      exact ⟨rfl, rfl⟩
  case rest =>
  as_aux_lemma =>
  obtain ⟨rfl, rfl⟩ := hcut
  go_wp2_with fail
  refine (O0.out _).mono ?_
  rintro e v5 ⟨rfl, hb5⟩
  go_wp2_with fail
  refine (O1.out _).mono ?_
  rintro e v6 ⟨rfl, hb6⟩
  go_wp2_with fail
  refine (O2.out _).mono ?_
  rintro e v7 ⟨rfl, hb7⟩
  go_upto_region 14 with fail
  go_cut [166] (fun t wx => t = .bool false ∧ v7 = wx)
  case first =>
    as_aux_lemma =>
    rcases U2.out with ⟨i1, i2, i3⟩ | ⟨i1, i2 | ⟨i2, i4⟩, i3 | ⟨i3, i5⟩⟩
    · have k1 : ((y0e : Int) == 0) = false := (by rw [beq_eq_false_iff_ne]; omega)
      have k2 : ((y0e : Int) == 5) = true := (by rw [beq_iff_eq]; omega)
      have k3 : ((y1e : Int) == 0) = false := (by rw [beq_eq_false_iff_ne]; omega)
      have k4 : ((y2e : Int) == 0) = false := (by rw [beq_eq_false_iff_ne]; omega)
      clear i1 i2 i3
      go_wp2_with fail
      go_meet
      exact ⟨rfl, rfl⟩
    · have k1 : ((y0e : Int) == 0) = true := (by rw [beq_iff_eq]; omega)
      have k2 : ((y0e : Int) == 5) = false := (by rw [beq_eq_false_iff_ne]; omega)
      have k3 : ((y1e : Int) == 0) = false := (by rw [beq_eq_false_iff_ne]; omega)
      have k4 : ((y2e : Int) == 0) = false := (by rw [beq_eq_false_iff_ne]; omega)
      clear i1 i2 i3
      go_wp2_with fail
      go_meet
      exact ⟨rfl, rfl⟩
    · have k1 : ((y0e : Int) == 0) = true := (by rw [beq_iff_eq]; omega)
      have k2 : ((y0e : Int) == 5) = false := (by rw [beq_eq_false_iff_ne]; omega)
      have k3 : ((y1e : Int) == 0) = false := (by rw [beq_eq_false_iff_ne]; omega)
      have k4 : ((y2e : Int) == 0) = true := (by rw [beq_iff_eq]; omega)
      have k5 : ¬ y2a < y0a := by omega
      clear i1 i2 i3 i5
      go_wp2_with fail
      go_meet
      exact ⟨rfl, rfl⟩
    · have k1 : ((y0e : Int) == 0) = true := (by rw [beq_iff_eq]; omega)
      have k2 : ((y0e : Int) == 5) = false := (by rw [beq_eq_false_iff_ne]; omega)
      have k3 : ((y1e : Int) == 0) = true := (by rw [beq_iff_eq]; omega)
      have k4 : ((y2e : Int) == 0) = false := (by rw [beq_eq_false_iff_ne]; omega)
      have k5 : ¬ y1a < y0a := by omega
      clear i1 i2 i4 i3
      go_wp2_with fail
      go_meet
      exact ⟨rfl, rfl⟩
    · have k1 : ((y0e : Int) == 0) = true := (by rw [beq_iff_eq]; omega)
      have k2 : ((y0e : Int) == 5) = false := (by rw [beq_eq_false_iff_ne]; omega)
      have k3 : ((y1e : Int) == 0) = true := (by rw [beq_iff_eq]; omega)
      have k4 : ((y2e : Int) == 0) = true := (by rw [beq_iff_eq]; omega)
      have k5 : ¬ y1a < y0a := by omega
      have k6 : ¬ y2a < y0a := by omega
      clear i1 i2 i4 i3 i5
      go_wp2_with fail
      go_meet
      exact ⟨rfl, rfl⟩
  case rest =>
  as_aux_lemma =>
  obtain ⟨rfl, rfl⟩ := hcut
  have hB7 : Below w.heap.size w v7 := below_then ((Below.refl _ w).alloc (Nat.le_refl _) _) (below_then (below_then (below_then (below_then (below_then (below_then hb1 hb2) hb3) hb4) hb5) hb6) hb7)
  have A7 := Lib.hid ((((((((A0.out.below hb1).below hb2).below hb3).below hb4).below hb5).below hb6).below hb7))
  clear A0 hb1 hb2 hb3 hb4 hb5 hb6 hb7 U1 U2 W0 W1 W2 O0 O1 O2 d0 d1 d2 d3 d4 d5 c1 c3 c5
  have lu := fun W => Level_ref a W
  have ld := fun W => Level_ref b W
  cases ha : levelB a
  · rw [ha] at lu
    have LU := Lib.hid lu
    clear lu ld ha
    go_wp2_with fail
    refine (LU.out _).mono ?_
    rintro e v8 ⟨rfl, rfl⟩
    go_wp2_with fail
    go_returns
    exact ⟨rfl, hB7⟩
  · rw [ha] at lu
    cases hb : levelB b
    · rw [hb] at ld
      have LU := Lib.hid lu
      have LD := Lib.hid ld
      clear lu ld ha hb
      go_wp2_with fail
      refine (LU.out _).mono ?_
      rintro e v8 ⟨rfl, rfl⟩
      go_wp2_with fail
      refine (LD.out _).mono ?_
      rintro e v8 ⟨rfl, rfl⟩
      go_wp2_with fail
      go_returns
      exact ⟨rfl, hB7⟩
    · rw [hb] at ld
      have LU := Lib.hid lu
      have LD := Lib.hid ld
      have pa := levelB_range ha
      have pb := levelB_range hb
      have HA := Lib.hid ha
      have HB := Lib.hid hb
      obtain ⟨pa1, pa2⟩ := pa
      obtain ⟨pb1, pb2⟩ := pb
      clear lu ld ha hb
      go_wp2_with fail
      refine (LU.out _).mono ?_
      rintro e v8 ⟨rfl, rfl⟩
      go_wp2_with fail
      refine (LD.out _).mono ?_
      rintro e v8 ⟨rfl, rfl⟩
      by_cases t0 : a ≤ 4194304 - n
      · as_aux_lemma =>
        have e0 : ¬ 4194304 - n < a := by omega
        by_cases t1 : b ≤ 4194304 - n
        · as_aux_lemma =>
          have e1 : ¬ 4194304 - n < b := by omega
          by_cases t2 : 0 ≤ s
          · as_aux_lemma =>
            have e2 : ¬ s < 0 := by omega
            by_cases t3 : s ≤ 1000
            · as_aux_lemma =>
              have e3 : ¬ 1000 < s := by omega
              obtain ⟨f0, f1, f2, f3, f4, f5, f6, f7, f8, f9, f10, fl⟩ := A7.out
              have iw := fun W => IsWeir_ref n0 n1 n2 sc kd ln up dn wd ht ca cn cc W
              have ig := fun W => IsGate_ref n0 n1 n2 sc kd ln up dn wd ht ca cn cc W
              obtain ⟨hw, hg⟩ := HK.out HA.out HB.out t0 t1 t2 t3
              rw [hw] at iw
              rw [hg] at ig
              have IW := Lib.hid iw
              have IG := Lib.hid ig
              clear iw ig hw hg
              go_wp2_with fail
              refine (IW.out _).mono ?_
              rintro e v8 ⟨rfl, rfl⟩
              clear f0 f1 f2 f3 f4 f5 f6 f7 f8 f9 f10 fl
              obtain ⟨f0, f1, f2, f3, f4, f5, f6, f7, f8, f9, f10, fl⟩ := A7.out.alloc (.cells #[.string n0, .string n1, .string n2, .int .i64 kd, .int .i64 ln, .int .i64 up, .int .i64 dn, .string sc, .int .i64 wd, .int .i64 ht, .slice ca cn cc] 32)
              go_wp2_with fail
              refine (IG.out _).mono ?_
              rintro e v9 ⟨rfl, rfl⟩
              go_wp2_with fail
              go_returns
              exact ⟨rfl, (hB7.alloc hB7.size _).alloc (by simp; have := hB7.size; omega) _⟩
            · as_aux_lemma =>
              have e3 : 1000 < s := by omega
              go_wp2_with fail
              go_returns
              exact ⟨rfl, hB7⟩
          · as_aux_lemma =>
            have e2 : s < 0 := by omega
            go_wp2_with fail
            go_returns
            exact ⟨rfl, hB7⟩
        · as_aux_lemma =>
          have e1 : 4194304 - n < b := by omega
          go_wp2_with fail
          go_returns
          exact ⟨rfl, hB7⟩
      · as_aux_lemma =>
        have e0 : 4194304 - n < a := by omega
        go_wp2_with fail
        go_returns
        exact ⟨rfl, hB7⟩
end Go.Proofs.Ytfalmbcnbomaoaa
