/- The law HydrographTogether returns true. -/
import Derived.Test.YtlkocedhhdknoaaTog1
namespace Go.Proofs.Ytlkocedhhdknoaa
open Go.RowKit
set_option linter.unusedVariables false

/-- What Peak, Triangle and Cascade give at the end of the law. -/
structure TogEnd (nn b st r f : Int) : Prop where
  cas : CasV nn b st = (casL b (nn - 1).toNat (st - 1).toNat, 0)
  tri : TriV r f = (triL r f (r + f - 1).toNat, 0)
theorem togEnd {nn b st r f : Int} (h1 : 1 ≤ nn) (h2 : nn ≤ 10) (h3 : 1 ≤ b) (h4 : b ≤ 1000) (h5 : 1 ≤ st) (h6 : st ≤ 60) (h7 : 1 ≤ r) (h8 : r ≤ 100) (h9 : 1 ≤ f) (h10 : f ≤ 100) : TogEnd nn b st r f :=
  ⟨by unfold CasV; rw [if_pos ⟨h1, h2, h3, h4, h5, by omega⟩], by unfold TriV; rw [if_pos ⟨h7, by omega, h9, by omega⟩]⟩

set_option maxRecDepth 100000 in
set_option maxHeartbeats 2000000 in
theorem Together_in {A : Option Addr} {n c : Nat} {us : List Int} (K : Nat) (nn b st r f : Int) (w : World) (h : Ints w A n c us)
    (h0 : n ≤ 40) (hk1 : 1 ≤ K) (hk2 : K ≤ 40) (hv : validB us = true) (h1 : 1 ≤ nn) (h2 : nn ≤ 10) (h3 : 1 ≤ b) (h4 : b ≤ 1000) (h5 : 1 ≤ st) (h6 : st ≤ 60) (h7 : 1 ≤ r) (h8 : r ≤ 100) (h9 : 1 ≤ f) (h10 : f ≤ 100) :
    Calls Try.prog 7 #[.slice A n c, .int .i64 K, .int .i64 nn, .int .i64 b, .int .i64 st, .int .i64 r, .int .i64 f] w fun e w' => e = .returned (.bool true) ∧ Below w.heap.size w w' := by
  have hcap := h.cap
  have hmax := h.max
  have H := Lib.hid h
  have HL := Lib.hid h.len
  have HV := Lib.hid hv
  obtain ⟨u0, u1, uin, -⟩ := valid_parts hv
  rw [h.len] at u0 u1
  have UIN := Lib.hid (inB_mono uin (show (1073741824 : Int) ≤ 1125899906842624 by omega))
  have vr := fun W (I : Ints W A n c us) => Valid_ref (A := A) (n := n) (c := c) (zs := us) W I
  rw [hv] at vr
  have VR := Lib.hid vr
  have TE := Lib.hid (togEnd h1 h2 h3 h4 h5 h6 h7 h8 h9 h10)
  have n1 : ¬ (40 : Int) < n := by omega
  have n2 : ¬ (K : Int) < 1 := by omega
  have n3 : ¬ (40 : Int) < K := by omega
  have n4 : ¬ nn < 1 := by omega
  have n5 : ¬ 10 < nn := by omega
  have n6 : ¬ b < 1 := by omega
  have n7 : ¬ 1000 < b := by omega
  have n8 : ¬ st < 1 := by omega
  have n9 : ¬ 60 < st := by omega
  have n10 : ¬ r < 1 := by omega
  have n11 : ¬ 100 < r := by omega
  have n12 : ¬ f < 1 := by omega
  have n13 : ¬ 100 < f := by omega
  have hc := Curve_calls (A := A) (n := n) (c := c) (us := us)
  clear vr h hv uin
  go_enter Try.func7, Try.ntmps7
  go_wp2_with fail
  refine (awake_calls _).mono ?_
  rintro e w1 ⟨rfl, b1⟩
  have B1 := Lib.hid b1
  clear b1
  go_wp2_with fail
  refine (VR.out _ (H.out.below B1.out)).mono ?_
  rintro e w2 ⟨rfl, rfl⟩
  have cw := Curve_calls w1 (H.out.below B1.out)
  rw [HV.out, if_pos rfl, if_pos rfl] at cw
  have CW := Lib.hid cw
  clear cw
  go_wp2_with fail
  refine CW.out.mono ?_
  rintro e w2 ⟨A1, m1, c1, rfl, i1, b2, -⟩
  obtain rfl : m1 = n := by have := i1.len; rw [curveL_length, HL.out] at this; exact this.symm
  have hc1 := i1.cap
  have hc2 := i1.max
  obtain ⟨ad, hA, hl0, hcl⟩ := i1.at_ (show m1 - 1 < m1 by omega)
  subst hA
  have hlast := curve_last (us := us) (by rw [HL.out]; omega)
  rw [HL.out] at hlast
  rw [hlast] at hcl
  have B2 := Lib.hid (below_then B1.out b2 B1.out.size)
  have I1 := Lib.hid (i1.alloc (.cells #[.slice (some ad) m1 c1] 22))
  have HB3 := Lib.hid (B2.out.alloc B2.out.size (.cells #[.slice (some ad) m1 c1] 22))
  have hcl3 : (w2.alloc (.cells #[.slice (some ad) m1 c1] 22)).cell? (ad.add (m1 - 1)) = some (.int .i64 (sumL us)) := by
    rw [World.cell?_alloc_lt _ _ _ (by rw [block_of_add]; exact hl0)]; exact hcl
  have hbx : (w2.alloc (.cells #[.slice (some ad) m1 c1] 22)).cell? ⟨w2.heap.size, 0, none⟩ = some (.slice (some ad) m1 c1) := by rw [World.cell?_alloc_new]; rfl
  have HBX := Lib.hid hbx
  obtain ⟨q, hq⟩ : ∃ q : Nat, m1 - 1 = q := ⟨_, rfl⟩
  rw [hq] at hcl3
  obtain ⟨w3, hw3⟩ : ∃ w3 : World, w2.alloc (.cells #[.slice (some ad) m1 c1] 22) = w3 := ⟨_, rfl⟩
  have HW3 := Lib.hid hw3
  have HLB := Lib.hid (show w2.heap.size < w3.heap.size by rw [← hw3]; simp)
  rw [hw3] at hcl3
  have I1' : Hid (Ints w3 (some ad) m1 c1 (curveL us)) := by rw [← hw3]; exact I1
  have HB3' : Hid (Below w.heap.size w w3) := by rw [← hw3]; exact HB3
  have HBX' : Hid (w3.cell? ⟨w2.heap.size, 0, none⟩ = some (.slice (some ad) m1 c1)) := by rw [← hw3]; exact HBX
  have su := fun W I => Sum_ref (A := A) (n := m1) (c := c) (zs := us) W I (fun k hk => sum_bd (N := 1000) UIN.out (by rw [HL.out]; omega) (by omega) k (by rw [HL.out]; exact hk))
  have sb := w_sum HV.out (Nat.le_refl us.length)
  obtain ⟨sv, hsv⟩ : ∃ sv, sumL us = sv := ⟨_, rfl⟩
  rw [show sumF (el us) us.length = sumL us from rfl, hsv] at sb
  rw [hsv] at su hcl3
  have HSV := Lib.hid hsv
  have SU := Lib.hid su
  have SQ : Hid (∀ j, Calls Try.prog 23 #[.slice A m1 c] (w3.drewN j) fun e w'' => e = .returned (.int .i64 sv) ∧ ∃ m, w'' = w3.drewN m) := Lib.hid fun j => q_of (SU.out (w3.drewN j) ((H.out.below HB3'.out).drewN j))
  have e1 : IntKind.i64.wrap ((m1 : Int) - 1) = (q : Int) := by rw [show (m1 : Int) - 1 = q by omega]; exact IntWalk.i64_in _ (by omega)
  have e3 : (0 : Int) ≤ q := by omega
  have e4 : (q : Int) < m1 := by omega
  have hbx' := HBX'.out
  clear i1 b2 hcl su hsv hlast hbx hq hw3 hc hl0
  go_wp2_with fail
  rw [HW3.out]
  go_quiet ((go_at_call 23; exact SQ.out _))
  have W4 : Hid (Below w.heap.size w (w3.drewN nq)) := Lib.hid (below_drewN HB3'.out nq)
  have lc := Longer_calls (K : Int) (w3.drewN nq) (H.out.below W4.out)
  unfold LongV at lc
  rw [HV.out, if_neg (by decide), if_neg (by omega), HL.out, if_neg (by omega), Int.toNat_natCast] at lc
  unfold longR at lc
  clear e1 e3 e4 hcl3
  cases hin : inB 1073741824 (longL us K)
  · rw [hin, if_pos rfl] at lc
    have LC := Lib.hid lc
    clear lc hin
    go_wp2_with fail
    refine LC.out.mono ?_
    rintro e w5 ⟨A5, m5, c5, rfl, i5, b5, -⟩
    have B5 := Lib.hid (below_then W4.out b5 W4.out.size)
    clear i5 b5
    have t1 := Cascade_calls nn b st w5
    rw [TE.out.cas] at t1
    have T1 := Lib.hid t1
    clear t1
    go_wp2_with fail
    refine T1.out.mono ?_
    rintro e w6 ⟨A6, m6, c6, rfl, i6, b6, -⟩
    have hl6 : m6 = (st - 1).toNat + 1 := by rw [← i6.len, cas_len]
    have hst : (m6 : Int) = st := by omega
    have I6 := Lib.hid i6
    have B6 := Lib.hid (below_then B5.out b6 B5.out.size)
    have t2 := Triangle_calls r f w6
    rw [TE.out.tri] at t2
    have T2 := Lib.hid t2
    have HST := Lib.hid hst
    clear t2 i6 b6 hl6 hst
    go_wp2_with fail
    refine T2.out.mono ?_
    rintro e w7 ⟨A7, m7, c7, rfl, i7, b7, -⟩
    have hl7 : (m7 : Int) = r + f - 1 := by have := i7.len; rw [triL_length] at this; omega
    have J6 := Lib.hid (I6.out.below b7)
    have I7 := Lib.hid i7
    have B7 := Lib.hid (below_then B6.out b7 B6.out.size)
    have t3 := Peak_calls w7 i7
    rw [tri_peak ⟨h7, by omega, h9, by omega⟩] at t3
    have T3 := Lib.hid t3
    have HL7 := Lib.hid hl7
    clear t3 i7 b7 hl7
    go_wp2_with fail
    refine T3.out.mono ?_
    rintro e w8 ⟨rfl, b8⟩
    have B8 := Lib.hid (below_then B7.out b8 B7.out.size)
    have K6 := J6.out.below b8
    have t4 := Sum_ref w8 K6 (fun k hk => sum_bd (N := 1000) (cas_inB h3 _ _) (by rw [cas_len]; omega) (by omega) k (by rw [K6.len]; exact hk))
    rw [sum_casL] at t4
    have T4 := Lib.hid t4
    have eq1 : ((m6 : Int) == st) = true := by rw [beq_iff_eq]; exact HST.out
    have eq2 : ((m7 : Int) == r + f - 1) = true := by rw [beq_iff_eq]; exact HL7.out
    obtain ⟨rf, hrf⟩ : ∃ rf, r * f = rf := ⟨_, rfl⟩
    have hrf0 : 0 ≤ r * f := Int.mul_nonneg (by omega) (by omega)
    have hrf1 : r * f ≤ 100 * 100 := Int.mul_le_mul (by omega) (by omega) (by omega) (by omega)
    rw [hrf] at hrf0 hrf1
    clear b8 K6 t4
    go_wp2_with fail
    refine T4.out.mono ?_
    rintro e w9 ⟨rfl, rfl⟩
    go_wp2
    go_ret
    exact ⟨rfl, B8.out⟩
    
  · rw [hin, if_neg (by decide)] at lc
    have LC := Lib.hid lc
    have HIN := Lib.hid hin
    clear lc hin
    go_wp2_with fail
    refine LC.out.mono ?_
    rintro e w5 ⟨A5, m5, c5, rfl, i5, b5, -⟩
    have hl5 : m5 = m1 + K - 1 := by have := i5.len; rw [longL_length, HL.out] at this; exact this.symm
    have hm5 : (m1 : Int) + K - 1 = (m5 : Int) := by omega
    have hm5b : m5 ≤ 80 := by omega
    have B5 := Lib.hid (below_then W4.out b5 W4.out.size)
    have I5 := Lib.hid i5
    have hc5 := i5.cap
    have hx5 := i5.max
    have hbx5 : w5.cell? ⟨w2.heap.size, 0, none⟩ = some (.slice (some ad) m1 c1) := (b5.cell (p := ⟨w2.heap.size, 0, none⟩) HLB.out).trans hbx'
    have I1b := Lib.hid ((I1'.out.drewN nq).below b5)
    have s5 := Sum_ref w5 i5 (fun k hk => sum_bd (N := 1000) (inB_mono HIN.out (by omega)) (by rw [longL_length, HL.out]; omega) (by omega) k (by rw [longL_length, HL.out, ← hl5]; exact hk))
    rw [sum_long hk1 (by rw [HL.out]; omega), HSV.out] at s5
    have s6 := SU.out w5 (H.out.below B5.out)
    obtain ⟨P, hP⟩ : ∃ P, (K : Int) * sv = P := ⟨_, rfl⟩
    have hP0 : 0 ≤ (K : Int) * sv := Int.mul_nonneg (by omega) sb.1
    have hP1 : (K : Int) * sv ≤ 40 * 1073741824000 := Int.mul_le_mul (by omega) sb.2 sb.1 (by omega)
    rw [hP] at s5 hP0 hP1
    have S5 := Lib.hid s5
    have S6 := Lib.hid s6
    have hmf : ∀ (fn : Fn) (first cap : Array Value) (w : World), (Instr.makeFunc fn first cap).run Try.prog w = .ok (.func fn first cap) w := fun _ _ _ _ => rfl
    have HL5 := Lib.hid hl5
    have HBX5 := Lib.hid hbx5
    clear i5 b5 s5 s6 hl5
    go_wp2_with fail
    refine S5.out.mono ?_
    rintro e w6 ⟨rfl, rfl⟩
    go_wp2_with fail
    refine S6.out.mono ?_
    rintro e w6 ⟨rfl, rfl⟩
    go_wp2
    clear hmf hP hP0 hP1 hm5 hbx5
    go_loopw [139] (fun i wr => ∃ m : Nat, m ≤ m5 ∧ i = .int .i64 m ∧ ∃ d, wr = w5.drewN d) (fun i _ => m5 - (intOf i).toNat)
    case atStart => exact ⟨0, Nat.zero_le _, rfl, 0, rfl⟩
    case round =>
      obtain ⟨m, hm, rfl, d, rfl⟩ := hrel
      by_cases hlt : m < m5
      · obtain ⟨ad5, hA5, hl6, hc6⟩ := I5.out.at_ hlt
        subst hA5
        have ex := long_at (us := us) (k := K) (m := m) (by rw [HL.out, ← HL5.out]; exact hlt)
        have cl : ∀ (j : Nat) (i : Int), -1000000 ≤ i → i ≤ 1000000 → Calls Try.prog 29 #[.int .i64 i, .pointer (some ⟨w2.heap.size, 0, none⟩)] (w5.drewN (d + j)) fun e w'' => e = .returned (.int .i64 (atV us i)) ∧ ∃ mm, w'' = w5.drewN (d + mm) := fun j i g0 g1 => q_add (a := d) (n := j) (at_closure i w2.heap.size (w5.drewN (d + j)) g0 g1 (by rw [HL.out]; omega) HBX5.out (I1b.out.drewN (d + j)))
        have r1 := atV_bd HV.out (m : Int)
        obtain ⟨dm, hdm⟩ : ∃ dm : Int, (m : Int) - K = dm := ⟨_, rfl⟩
        rw [hdm] at ex
        have r2 := atV_bd HV.out dm
        have hdm1 : -40 ≤ dm := by omega
        have hdm2 : dm ≤ 80 := by omega
        generalize el (longL us K) m = x at *
        have CL := Lib.hid cl
        have e1 : IntKind.i64.wrap ((m : Int) - K) = dm := by rw [hdm]; exact IntWalk.i64_in _ (by omega)
        have e2 : IntKind.i64.wrap (atV us (m : Int) - atV us dm) = x := by rw [ex]; exact IntWalk.i64_in _ (by omega)
        have e3 : (0 : Int) ≤ m := by omega
        have e4 : (m : Int) < m5 := by omega
        clear cl ex hdm r1 r2
        go_wp2
        go_quiet ((go_at_call 29; exact CL.out _ _ (by omega) (by omega)))
        clear e1 e2 hc6
        go_wp2
        go_roundw
        case rel => exact ⟨m + 1, by omega, by go_num, _, rfl⟩
        case measure => simp [intOf]; try omega
      · have B5d := Lib.hid (below_drewN B5.out d)
        have t1 := Cascade_calls nn b st (w5.drewN d)
        rw [TE.out.cas] at t1
        have T1 := Lib.hid t1
        clear t1
        go_wp2_with fail
        refine T1.out.mono ?_
        rintro e w6 ⟨A6, m6, c6, rfl, i6, b6, -⟩
        have hl6 : m6 = (st - 1).toNat + 1 := by rw [← i6.len, cas_len]
        have hst : (m6 : Int) = st := by omega
        have I6 := Lib.hid i6
        have B6 := Lib.hid (below_then B5d.out b6 B5d.out.size)
        have t2 := Triangle_calls r f w6
        rw [TE.out.tri] at t2
        have T2 := Lib.hid t2
        have HST := Lib.hid hst
        clear t2 i6 b6 hl6 hst
        go_wp2_with fail
        refine T2.out.mono ?_
        rintro e w7 ⟨A7, m7, c7, rfl, i7, b7, -⟩
        have hl7 : (m7 : Int) = r + f - 1 := by have := i7.len; rw [triL_length] at this; omega
        have J6 := Lib.hid (I6.out.below b7)
        have I7 := Lib.hid i7
        have B7 := Lib.hid (below_then B6.out b7 B6.out.size)
        have t3 := Peak_calls w7 i7
        rw [tri_peak ⟨h7, by omega, h9, by omega⟩] at t3
        have T3 := Lib.hid t3
        have HL7 := Lib.hid hl7
        clear t3 i7 b7 hl7
        go_wp2_with fail
        refine T3.out.mono ?_
        rintro e w8 ⟨rfl, b8⟩
        have B8 := Lib.hid (below_then B7.out b8 B7.out.size)
        have K6 := J6.out.below b8
        have t4 := Sum_ref w8 K6 (fun k hk => sum_bd (N := 1000) (cas_inB h3 _ _) (by rw [cas_len]; omega) (by omega) k (by rw [K6.len]; exact hk))
        rw [sum_casL] at t4
        have T4 := Lib.hid t4
        have eq1 : ((m6 : Int) == st) = true := by rw [beq_iff_eq]; exact HST.out
        have eq2 : ((m7 : Int) == r + f - 1) = true := by rw [beq_iff_eq]; exact HL7.out
        obtain ⟨rf, hrf⟩ : ∃ rf, r * f = rf := ⟨_, rfl⟩
        have hrf0 : 0 ≤ r * f := Int.mul_nonneg (by omega) (by omega)
        have hrf1 : r * f ≤ 100 * 100 := Int.mul_le_mul (by omega) (by omega) (by omega) (by omega)
        rw [hrf] at hrf0 hrf1
        clear b8 K6 t4
        go_wp2_with fail
        refine T4.out.mono ?_
        rintro e w9 ⟨rfl, rfl⟩
        go_wp2
        go_ret
        exact ⟨rfl, B8.out⟩
        

theorem Together_calls {A : Option Addr} {n c : Nat} {us : List Int} (k nn b st r f : Int) (w : World) (h : Ints w A n c us) :
    Calls Try.prog 7 #[.slice A n c, .int .i64 k, .int .i64 nn, .int .i64 b, .int .i64 st, .int .i64 r, .int .i64 f] w fun e w' => e = .returned (.bool true) ∧ Below w.heap.size w w' := by
  by_cases hyes : (n : Int) ≤ 40 ∧ 1 ≤ k ∧ k ≤ 40 ∧ validB us = true ∧ 1 ≤ nn ∧ nn ≤ 10 ∧ 1 ≤ b ∧ b ≤ 1000 ∧ 1 ≤ st ∧ st ≤ 60 ∧ 1 ≤ r ∧ r ≤ 100 ∧ 1 ≤ f ∧ f ≤ 100
  · obtain ⟨g0, g1, g2, g3, g4, g5, g6, g7, g8, g9, g10, g11, g12, g13⟩ := hyes
    obtain ⟨K, rfl⟩ : ∃ K : Nat, k = K := ⟨k.toNat, by omega⟩
    exact Together_in K nn b st r f w h (by omega) (by omega) (by omega) g3 g4 g5 g6 g7 g8 g9 g10 g11 g12 g13
  · exact Together_out k nn b st r f w h hyes
end Go.Proofs.Ytlkocedhhdknoaa
