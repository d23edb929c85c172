/- Centre of the program. -/
import Derived.Test.YtlkocedhhdknoaaCentre
import Derived.Deep.CutRange
import Derived.Deep.RegionWith
namespace Go.Proofs.Ytlkocedhhdknoaa
open Go.RowKit
set_option linter.unusedVariables false

set_option maxHeartbeats 1000000 in
theorem Centre_bad {A : Option Addr} {n c : Nat} {zs : List Int} (w : World) (h : Ints w A n c zs) (hs : seriesB zs = false) :
    Calls Try.prog 35 #[.slice A n c] w (RetF ((0, 0), 1) w) := by
  have sr := series_calls (A := A) (n := n) (c := c) (zs := zs) (w.alloc (fracO 0 0)) (h.alloc _)
  rw [hs] at sr
  have SR := Lib.hid sr
  clear sr h
  go_enter Try.func35, Try.ntmps35
  go_wp2_with fail
  refine SR.out.mono ?_
  rintro e w1 ⟨rfl, b1⟩
  have r0 : w1.cell? ⟨w.heap.size, 0, none⟩ = some (.int .i64 0) := (b1.cell (p := ⟨w.heap.size, 0, none⟩) (by simp)).trans (by go_simp)
  have r1 : w1.cell? ⟨w.heap.size, 1, none⟩ = some (.int .i64 0) := (b1.cell (p := ⟨w.heap.size, 1, none⟩) (by simp)).trans (by go_simp)
  have z0 : w1.frozen? ⟨w.heap.size, 0, none⟩ = false := (b1.frozen (p := ⟨w.heap.size, 0, none⟩) (by simp)).trans (by go_simp)
  have z1 : w1.frozen? ⟨w.heap.size, 1, none⟩ = false := (b1.frozen (p := ⟨w.heap.size, 1, none⟩) (by simp)).trans (by go_simp)
  have BB : Hid (Below w.heap.size w w1) := Lib.hid (below_then ((Below.refl _ _).alloc (Nat.le_refl _) _) b1 (by simp))
  clear b1
  have q0 : (w1.setCell ⟨w.heap.size, 0, none⟩ (.int .i64 0)).cell? ⟨w.heap.size, 0, none⟩ = some (.int .i64 0) := World.cell?_setCell_same w1 _ _ r0
  have q1 : ((w1.setCell ⟨w.heap.size, 0, none⟩ (.int .i64 0)).setCell ⟨w.heap.size, 1, none⟩ (.int .i64 0)).cell? ⟨w.heap.size, 1, none⟩ = some (.int .i64 0) := World.cell?_setCell_same (u := .int .i64 0) _ _ _ (by rw [World.cell?_setCell_other w1 _ _ _ (by simp)]; exact r1)
  go_wp2
  refine bodyPost_ret (v := .tuple #[.agg #[.int .i64 0, .int .i64 0], .int .i64 1]) (by simp [results, Try.results35, go_sem, q0, q1]) rfl ?_
  exact ⟨rfl, (BB.out.setCell (by simp) _).setCell (by simp) _⟩

set_option maxHeartbeats 4000000 in
theorem Centre_in {A : Option Addr} {n c : Nat} {zs : List Int} (w : World) (h : Ints w A n c zs) (hs : seriesB zs = true) (ok : CenOk zs) :
    Calls Try.prog 35 #[.slice A n c] w (RetF (MakeV (mN zs zs.length) (sN zs zs.length)) w) := by
  have HL := Lib.hid h.len
  have hcap := h.cap
  have hmax := h.max
  rw [h.len]
  have hn : n ≤ 100 := by have := ok.len; have := h.len; omega
  have OK := Lib.hid ok
  have sr := series_calls (A := A) (n := n) (c := c) (zs := zs) (w.alloc (fracO 0 0)) (h.alloc _)
  rw [hs] at sr
  have SR := Lib.hid sr
  have H := Lib.hid (h.alloc (fracO 0 0))
  have hS := ok.s n (by rw [h.len]; omega)
  have hM := ok.m n (by rw [h.len]; omega)
  have hVz : sN zs n = 0 → MakeV (mN zs n) (sN zs n) = ((0, 0), 16) := fun h => by unfold MakeV; rw [if_pos h]
  have HVZ := Lib.hid hVz
  clear sr hVz h ok hs
  obtain ⟨V, hV⟩ : ∃ V, MakeV (mN zs n) (sN zs n) = V := ⟨_, rfl⟩
  rw [hV] at HVZ ⊢
  have HV := Lib.hid hV
  clear hV
  go_enter Try.func35, Try.ntmps35
  go_wp2_with fail
  refine SR.out.mono ?_
  rintro e w1 ⟨rfl, b1⟩
  have r0 : w1.cell? ⟨w.heap.size, 0, none⟩ = some (.int .i64 0) := (b1.cell (p := ⟨w.heap.size, 0, none⟩) (by simp)).trans (by go_simp)
  have r1 : w1.cell? ⟨w.heap.size, 1, none⟩ = some (.int .i64 0) := (b1.cell (p := ⟨w.heap.size, 1, none⟩) (by simp)).trans (by go_simp)
  have z0 : w1.frozen? ⟨w.heap.size, 0, none⟩ = false := (b1.frozen (p := ⟨w.heap.size, 0, none⟩) (by simp)).trans (by go_simp)
  have z1 : w1.frozen? ⟨w.heap.size, 1, none⟩ = false := (b1.frozen (p := ⟨w.heap.size, 1, none⟩) (by simp)).trans (by go_simp)
  have hlt1 : w.heap.size < w1.heap.size := by have := b1.size; simp at this; omega
  have BB : Hid (Below w.heap.size w w1) := Lib.hid (below_then ((Below.refl _ _).alloc (Nat.le_refl _) _) b1 (by simp))
  have HI := Lib.hid (H.out.below b1)
  have HLT := Lib.hid hlt1
  have HR0 := Lib.hid r0
  have HR1 := Lib.hid r1
  have HZ0 := Lib.hid z0
  have HZ1 := Lib.hid z1
  clear b1 r0 r1 z0 z1 hlt1
  go_wp2
  go_loop [4, 22] (fun u i => ∃ k : Nat, k ≤ n ∧ i = .int .i64 k ∧ u = .int .u64 (sN zs k : Nat)) (fun _ i => n - (intOf i).toNat)
  case atStart => exact ⟨0, Nat.zero_le _, rfl, rfl⟩
  case round =>
    obtain ⟨k, hk, rfl, rfl⟩ := hrel
    by_cases hlt : k < n
    · have hv := OK.out.v (show k < zs.length by rw [HL.out]; exact hlt)
      have hvl := OK.out.vle (show k < zs.length by rw [HL.out]; exact hlt)
      have hml := OK.out.s k (by rw [HL.out]; omega)
      obtain ⟨ad, rfl, hl, hc⟩ := HI.out.at_ hlt
      rw [hv] at hc
      have HN : Hid (sN zs (k + 1) = sN zs k + vN zs k) := Lib.hid rfl
      clear hv
      generalize vN zs k = v at *
      generalize sN zs k = S at *
      have hML : S ≤ 109951162777600 := by omega
      clear hml
      go_wp2
      go_round
      case rel => exact ⟨k + 1, by omega, by go_num, by rw [HN.out]; go_num⟩
      case measure => simp [intOf]; try omega
    · obtain rfl : k = n := by omega
      have hsl : (sN zs k : Int) ≤ 109951162777600 := by omega
      by_cases h0 : sN zs k = 0
      · rw [h0]
        have hv := HVZ.out h0
        subst hv
        have r0 := HR0.out
        have r1 := HR1.out
        have z0 := HZ0.out
        have z1 := HZ1.out
        have q0 : (w1.setCell ⟨w.heap.size, 0, none⟩ (.int .i64 0)).cell? ⟨w.heap.size, 0, none⟩ = some (.int .i64 0) := World.cell?_setCell_same w1 _ _ r0
        have q1 : ((w1.setCell ⟨w.heap.size, 0, none⟩ (.int .i64 0)).setCell ⟨w.heap.size, 1, none⟩ (.int .i64 0)).cell? ⟨w.heap.size, 1, none⟩ = some (.int .i64 0) := World.cell?_setCell_same (u := .int .i64 0) _ _ _ (by rw [World.cell?_setCell_other w1 _ _ _ (by simp)]; exact r1)
        go_wp2
        refine bodyPost_ret (v := .tuple #[.agg #[.int .i64 0, .int .i64 0], .int .i64 16]) (by simp [results, Try.results35, go_sem, q0, q1]) rfl ?_
        exact ⟨rfl, (BB.out.setCell (by simp) _).setCell (by simp) _⟩
      · have hs0 : ((sN zs k : Int) == 0) = false := by simp [h0]
        have HVS : Hid (∀ i, i < k → vN zs i ≤ sN zs k) := Lib.hid fun i hi => v_le_s zs hi
        obtain ⟨S, hS1⟩ : ∃ S, sN zs k = S := ⟨_, rfl⟩
        rw [hS1] at HV hsl h0 hs0 HVS
        rw [hS1]
        have HSP : Hid (0 < S) := Lib.hid (by omega)
        clear hS1 hS hM HVZ h0
        go_wp2
        go_loopw [38] (fun i wr => ∃ j W R : Nat, j ≤ k ∧ i = .int .i64 j ∧ Mom wr w1.heap.size W R S ∧ R < S ∧ Hid (W * S + R = mN zs j) ∧ Ints wr A k c zs ∧ Below w1.heap.size w1 wr) (fun i _ => k - (intOf i).toNat)
        case atStart => exact ⟨0, 0, 0, Nat.zero_le _, rfl, Mom.made w1 S, HSP.out, Lib.hid (by simp [mN]), HI.out.alloc _, (Below.refl _ _).alloc (Nat.le_refl _) _⟩
        case round =>
          obtain ⟨j, W, R, hj, rfl, hmo, hR, hV1, hi, hb⟩ := hrel
          have HB := Lib.hid hb
          have HLB : Hid (w1.heap.size < wr.heap.size) := Lib.hid hmo.lt
          have HMO := Lib.hid hmo
          have HII := Lib.hid hi
          have HRR := Lib.hid hR
          have hmj := OK.out.m j (by rw [HL.out]; omega)
          clear hb hmo hi hR
          by_cases hlt2 : j < k
          · have hv := OK.out.v (show j < zs.length by rw [HL.out]; exact hlt2)
            have hvl := OK.out.vle (show j < zs.length by rw [HL.out]; exact hlt2)
            have hvs := HVS.out j hlt2
            obtain ⟨ad, rfl, hl, hc⟩ := HII.out.at_ hlt2
            rw [hv] at hc
            have HN : Hid (mN zs (j + 1) = mN zs j + j * vN zs j) := Lib.hid rfl
            clear hv
            generalize vN zs j = v at *
            have hjv : j * v ≤ 109951162777600 := Nat.mul_le_mul (show j ≤ 100 by omega) hvl
            have HJV := Lib.hid hjv
            have HMJ := Lib.hid hmj
            have HVSL := Lib.hid hvs
            have hj100 : (j : Int) ≤ 100 := by omega
            clear hjv hmj hvs
            generalize wr = wo at *
            go_wp2
            go_loopw [11] (fun b wi => ∃ i B Wp Rp : Nat, i ≤ 15 ∧ Hid (B = bitAt i) ∧ b = .int .i64 B ∧ Mom wi wo.heap.size Wp Rp S ∧ Rp < S ∧ Hid (Wp * S + Rp = j / 2 ^ i * v) ∧ Turns wo.heap.size (wo.alloc (momO S)) wi) (fun b _ => (intOf b).toNat)
            case atStart => exact ⟨15, 16384, 0, 0, by omega, by rfl, rfl, Mom.made wo S, HSP.out, Lib.hid (by rw [Nat.div_eq_of_lt (by omega)]; simp), Turns.refl _ _⟩
            case round =>
              obtain ⟨i, B, Wp, Rp, hi15, hB, rfl, mp, lp, ep, tp⟩ := hrel
              have hwp : Wp ≤ j * v := Nat.le_trans (mom_W ep.out HSP.out) (div_pow_le j v i)
              have HMP := Lib.hid mp
              have HEP := Lib.hid ep.out
              have HTP := Lib.hid tp
              have HLP := Lib.hid lp
              have HWP := Lib.hid hwp
              have HI15 := Lib.hid hi15
              clear mp ep tp lp hwp hi15
              have p0 := HMP.out.c0
              have p1 := HMP.out.c1
              cases i with
              | zero =>
                obtain rfl : B = 0 := hB.out
                have mm : Mom wr w1.heap.size W R S := (HMO.out.alloc _).turns HTP.out (by have := HLB.out; omega)
                have MM := Lib.hid mm
                clear mm
                go_wp2_with fail
                refine (add_calls Wp Rp _ MM.out HRR.out (Nat.le_of_lt HLP.out) (by have := mom_W hV1.out HSP.out; have := HWP.out; have := HJV.out; have := HMJ.out; omega) (by omega)).mono ?_
                rintro e w2 ⟨rfl, t2, W2, R2, m2, l2, e2⟩
                have T2 := Lib.hid t2
                have M2 := Lib.hid m2
                have L2 := Lib.hid l2
                have E2 := Lib.hid e2
                clear t2 m2 l2 e2
                have BW : Hid (Below wo.heap.size wo wr) := Lib.hid (((Below.refl _ _).alloc (Nat.le_refl _) _).trans (HTP.out.below _ (Nat.le_refl _)))
                have BX : Hid (Below w1.heap.size w1 w2) := Lib.hid ((below_then HB.out BW.out HB.out.size).trans (T2.out.below _ (Nat.le_refl _)))
                go_wp2
                go_roundw
                case rel => exact ⟨j + 1, W2, R2, by omega, by go_num, M2.out, L2.out, Lib.hid (by rw [E2.out, HN.out, hV1.out, HEP.out]; simp), HI.out.below BX.out, BX.out⟩
                case measure => simp [intOf]; try omega
              | succ i =>
                have hBi : B = 2 ^ i := by have := hB.out; unfold bitAt at this; simpa using this
                have hB0 : 0 < B := by rw [hBi]; exact Nat.two_pow_pos i
                have hB1 : B ≤ 16384 := by rw [hBi, show 16384 = 2 ^ 14 by rfl]; exact Nat.pow_le_pow_right (by omega) (by have := HI15.out; omega)
                obtain ⟨B2, hB2⟩ : ∃ B2 : Nat, (B : Int) / 2 = B2 := ⟨B / 2, by omega⟩
                have hB2' : Hid (B2 = bitAt i) := Lib.hid (by
                  have : B2 = B / 2 := by omega
                  rw [this, hBi]
                  unfold bitAt
                  cases i with
                  | zero => rfl
                  | succ i => rw [if_neg (by omega), Nat.pow_succ, Nat.mul_div_cancel _ (by omega)]; rfl)
                have hand := i64_and_nat j B (by omega) (by omega)
                obtain ⟨X, hX⟩ : ∃ X, j &&& B = X := ⟨_, rfl⟩
                rw [hX] at hand
                have hXz : X = 0 ↔ j / 2 ^ i % 2 = 0 := by rw [← hX, hBi]; exact bit_zero_iff j i
                have HXZ := Lib.hid hXz
                have HB2 : Hid (B2 < B) := Lib.hid (by omega)
                have HBI := Lib.hid hBi
                clear hX hXz hBi hB
                go_wp2_with fail
                refine (add_calls Wp Rp _ HMP.out HLP.out (Nat.le_of_lt HLP.out) (by have := HWP.out; have := HJV.out; omega) (by omega)).mono ?_
                rintro e w2 ⟨rfl, t2, W2, R2, m2, l2, e2⟩
                have T2 := Lib.hid (HTP.out.trans t2)
                have M2 := Lib.hid m2
                have L2 := Lib.hid l2
                have E2 := Lib.hid e2
                clear t2 m2 l2 e2 p0 p1
                by_cases hz : X = 0
                · have hz' : ((X : Int) != 0) = false := by rw [bne_eq_false_iff_eq]; omega
                  have E := Lib.hid (E2.out.trans (dbl0 HEP.out (HXZ.out.1 hz)))
                  clear hz
                  go_wp2
                  go_roundw
                  case rel => exact ⟨i, B2, W2, R2, by have := HI15.out; omega, hB2', by go_num, M2.out, L2.out, E, T2.out⟩
                  case measure => have := HB2.out; simp [intOf]; try omega
                · have hz' : ((X : Int) != 0) = true := by rw [bne_iff_ne]; omega
                  have hone : j / 2 ^ i % 2 = 1 := by have : ¬ j / 2 ^ i % 2 = 0 := fun h => hz (HXZ.out.2 h); omega
                  have E := Lib.hid (dbl1 HEP.out hone)
                  have hw2 : W2 ≤ 2 * (j * v) := by
                    have h1 := mom_W E2.out HSP.out
                    have h2 := div_pow_le j v (i + 1)
                    rw [HEP.out] at h1
                    omega
                  have HW2 := Lib.hid hw2
                  clear hz hone hw2
                  go_wp2_with fail
                  refine (add_calls 0 v _ M2.out L2.out HVSL.out (by have := HW2.out; have := HJV.out; omega) (by omega)).mono ?_
                  rintro e w3 ⟨rfl, t3, W3, R3, m3, l3, e3⟩
                  have T3 := Lib.hid (T2.out.trans t3)
                  have M3 := Lib.hid m3
                  have L3 := Lib.hid l3
                  have E3 := Lib.hid e3
                  clear t3 m3 l3 e3
                  go_wp2
                  go_roundw
                  case rel => exact ⟨i, B2, W3, R3, by have := HI15.out; omega, hB2', by go_num, M3.out, L3.out, Lib.hid (by rw [E3.out, E2.out, ← E.out]; simp), T3.out⟩
                  case measure => have := HB2.out; simp [intOf]; try omega
          · obtain rfl : j = k := by omega
            have E := cen_end hV1.out HSP.out
            have gc := gcd_calls R S (by have := HRR.out; omega) (by omega)
            obtain ⟨g, hg⟩ : ∃ g, Nat.gcd R S = g := ⟨_, rfl⟩
            rw [hg] at E gc
            obtain ⟨den, hden⟩ : ∃ den, S / g = den := ⟨_, rfl⟩
            obtain ⟨rg, hrg⟩ : ∃ rg, R / g = rg := ⟨_, rfl⟩
            obtain ⟨wd, hwd⟩ : ∃ wd, W * den = wd := ⟨_, rfl⟩
            obtain ⟨num, hnum⟩ : ∃ num, wd + rg = num := ⟨_, rfl⟩
            rw [hden, hrg, hwd, hnum] at E
            have d1 : (S : Int) / (g : Int) = (den : Int) := by rw [← hden, Int.natCast_ediv]
            have d2 : (R : Int) / (g : Int) = (rg : Int) := by rw [← hrg, Int.natCast_ediv]
            have d3 : (W : Int) * (den : Int) = (wd : Int) := by rw [← hwd, Int.natCast_mul]
            have d4 : (wd : Int) + (rg : Int) = (num : Int) := by omega
            have hg0 : ((g : Int) == 0) = false := by have := E.gpos; simp; omega
            have n0 := E.gpos
            have n1 := E.nle
            have n2 := E.wle
            have n3 := E.rle
            have n4 := E.dle
            have n5 := E.dpos
            rw [hwd] at n2
            rw [hrg] at n3
            have HE1 := Lib.hid E.V
            have HE2 := Lib.hid E.V'
            have GC := Lib.hid gc
            have hden2 : (den : Int) ≤ 109951162777600 := by omega
            have hnum2 : (num : Int) ≤ 10995116277760000 := by omega
            have i1 := i64_of_nat den (by omega)
            have i2 := i64_of_nat rg (by omega)
            have i3 := i64_of_nat wd (by omega)
            have i4 := i64_of_nat num (by omega)
            rw [HV.out] at HE1
            have mk := fun W0 => Make_calls num den (by omega) (by omega) W0
            rw [HE2.out, ← HE1.out] at mk
            have MK := Lib.hid mk
            have p0 := HMO.out.c0
            have p1 := HMO.out.c1
            clear mk E gc hg hden hrg hwd hnum n1 n2 n3 n4 hmj HE2
            have r0 : wr.cell? ⟨w.heap.size, 0, none⟩ = some (.int .i64 0) := (HB.out.cell (p := ⟨w.heap.size, 0, none⟩) HLT.out).trans HR0.out
            have r1 : wr.cell? ⟨w.heap.size, 1, none⟩ = some (.int .i64 0) := (HB.out.cell (p := ⟨w.heap.size, 1, none⟩) HLT.out).trans HR1.out
            have z0 : wr.frozen? ⟨w.heap.size, 0, none⟩ = false := (HB.out.frozen (p := ⟨w.heap.size, 0, none⟩) HLT.out).trans HZ0.out
            have z1 : wr.frozen? ⟨w.heap.size, 1, none⟩ = false := (HB.out.frozen (p := ⟨w.heap.size, 1, none⟩) HLT.out).trans HZ1.out
            have BB2 : Hid (Below w.heap.size w wr) := Lib.hid (below_then BB.out HB.out BB.out.size)
            go_wp2_with fail
            refine (GC.out _).mono ?_
            rintro e w2 ⟨rfl, q, rfl⟩
            by_cases hbig : 1073741824 < (den : Int)
            · have hv : V = ((0, 0), 5) := by rw [HE1.out, if_pos (by omega)]
              subst hv
              have q0 : ((wr.drewN q).setCell ⟨w.heap.size, 0, none⟩ (.int .i64 0)).cell? ⟨w.heap.size, 0, none⟩ = some (.int .i64 0) := World.cell?_setCell_same _ _ _ r0
              have q1 : (((wr.drewN q).setCell ⟨w.heap.size, 0, none⟩ (.int .i64 0)).setCell ⟨w.heap.size, 1, none⟩ (.int .i64 0)).cell? ⟨w.heap.size, 1, none⟩ = some (.int .i64 0) := World.cell?_setCell_same (u := .int .i64 0) _ _ _ (by rw [World.cell?_setCell_other _ _ _ _ (by simp)]; exact r1)
              go_wp2
              refine bodyPost_ret (v := .tuple #[.agg #[.int .i64 0, .int .i64 0], .int .i64 5]) (by simp [results, Try.results35, go_sem, q0, q1]) rfl ?_
              exact ⟨rfl, ((below_drewN BB2.out q).setCell (by simp) _).setCell (by simp) _⟩
            · go_upto_region 28 with fail
              go_cut [14, 15] from 80 to 94 (fun a b wx => ∃ p, a = .pointer (some ⟨p, 0, none⟩) ∧ b = .int .i64 V.2 ∧ wx.cell? ⟨p, 0, none⟩ = some (.int .i64 V.1.1) ∧ wx.cell? ⟨p, 1, none⟩ = some (.int .i64 V.1.2) ∧ Below wr.heap.size wr wx)
              case first =>
                have hlb := HLB.out
                have pa0 : ((wr.drewN (q + 1)).alloc (Obj.cells #[Value.int IntKind.i64 0, Value.int IntKind.i64 0] 52)).cell? ⟨w1.heap.size, 0, none⟩ = some (.int .i64 W) := by rw [World.cell?_alloc_lt _ _ _ (by exact hlb)]; exact p0
                have pa1 : ((wr.drewN (q + 1)).alloc (Obj.cells #[Value.int IntKind.i64 0, Value.int IntKind.i64 0] 52)).cell? ⟨w1.heap.size, 1, none⟩ = some (.int .u64 R) := by rw [World.cell?_alloc_lt _ _ _ (by exact hlb)]; exact p1
                clear HR0 HR1 HZ0 HZ1 HL SR H HI HVS hV1 HMO HRR HII hlt2 hlt OK HV GC BB HLT HSP HB HLB BB2 r0 r1 z0 z1 HE1 hs0 hsl hj hk hcap hmax hn hbig
                go_region_with (first | (go_at_call 52; refine (MK.out _).mono ?_; rintro e w3 ⟨rfl, b3⟩; have k3 := keepA b3; simp at k3; obtain ⟨x0, x1, y0, y1⟩ := k3; have B3 := keepB b3) | (go_at_call 52; refine (MK.out _).mono ?_; rintro e w3 ⟨rfl, b3⟩; have B3 := keepC b3))
                all_goals (go_wp2_with fail; go_meet)
                all_goals (first | exact ⟨_, rfl, rfl, setF0 _ _ _ (by assumption), setF1 _ _ _ (by assumption), (Below.setCell (Below.setCell (by assumption) (by simp) _) (by simp) _)⟩ | exact ⟨_, rfl, rfl, by go_simp, by go_simp, lateB _ (by assumption)⟩)
              case rest =>
                obtain ⟨p, rfl, rfl, u0, u1, bx⟩ := hcut
                have hl2 : w.heap.size < wr.heap.size := by have := HLT.out; have := HLB.out; omega
                have s0 := (bx.cell (p := ⟨w.heap.size, 0, none⟩) hl2).trans r0
                have s1 := (bx.cell (p := ⟨w.heap.size, 1, none⟩) hl2).trans r1
                have y0 := (bx.frozen (p := ⟨w.heap.size, 0, none⟩) hl2).trans z0
                have y1 := (bx.frozen (p := ⟨w.heap.size, 1, none⟩) hl2).trans z1
                have BB3 := Lib.hid (below_then BB2.out bx BB2.out.size)
                have q0 : ∀ a : Int, (wc.setCell ⟨w.heap.size, 0, none⟩ (.int .i64 a)).cell? ⟨w.heap.size, 0, none⟩ = some (.int .i64 a) := fun a => World.cell?_setCell_same wc _ _ s0
                have q1 : ∀ a b : Int, ((wc.setCell ⟨w.heap.size, 0, none⟩ (.int .i64 a)).setCell ⟨w.heap.size, 1, none⟩ (.int .i64 b)).cell? ⟨w.heap.size, 1, none⟩ = some (.int .i64 b) := fun a b => World.cell?_setCell_same (u := .int .i64 0) _ _ _ (by rw [World.cell?_setCell_other wc _ _ _ (by simp)]; exact s1)
                clear bx r0 r1 z0 z1 p0 p1
                by_cases hc : 1073741824 < num ∨ 1073741824 < den
                · have hv : V = ((0, 0), 5) := by rw [HE1.out, if_pos hc]
                  subst hv
                  clear hc
                  go_wp2
                  refine bodyPost_ret (v := .tuple #[.agg #[.int .i64 0, .int .i64 0], .int .i64 5]) (by simp [results, Try.results35, go_sem, q0, q1]) rfl ?_
                  exact ⟨rfl, (BB3.out.setCell (by simp) _).setCell (by simp) _⟩
                · have hv : V = (((num : Int), (den : Int)), 0) := by rw [HE1.out, if_neg hc]
                  subst hv
                  clear hc
                  dsimp only at u0 u1
                  go_wp2
                  refine bodyPost_ret (v := .tuple #[.agg #[.int .i64 num, .int .i64 den], .int .i64 0]) (by simp [results, Try.results35, go_sem, q0, q1]) rfl ?_
                  exact ⟨rfl, (BB3.out.setCell (by simp) _).setCell (by simp) _⟩
end Go.Proofs.Ytlkocedhhdknoaa
