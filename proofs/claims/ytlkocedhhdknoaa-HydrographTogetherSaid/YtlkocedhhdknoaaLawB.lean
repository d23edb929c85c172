/- The law HydrographUnits returns true. -/
import Derived.Test.YtlkocedhhdknoaaLawA
namespace Go.Proofs.Ytlkocedhhdknoaa
open Go.RowKit
set_option linter.unusedVariables false

theorem tri_valid {r f : Int} (h : triOk r f) : validB (triL r f (r + f - 1).toNat) = true := by
  obtain ⟨hr0, hr, hf0, hf⟩ := h
  have hel : ∀ k, k < (r + f - 1).toNat → el (triL r f (r + f - 1).toNat) k = triE r f ((k : Int) + 1) := fun k hk => by unfold triL el; rw [List.getD_eq_getElem?_getD, List.getElem?_map, List.getElem?_range hk]; rfl
  unfold validB
  rw [triL_length, decide_eq_true (by omega), decide_eq_true (by omega), Bool.true_and, Bool.true_and]
  have hin : inB 1073741824 (triL r f (r + f - 1).toNat) = true := by
    apply in_all
    intro k hk
    rw [triL_length] at hk
    have hb := tri_bd (i := (k : Int) + 1) hr0 hr hf0 hf (by omega) (by omega)
    rw [hel k hk]
    unfold badB triE
    rw [decide_eq_false (by omega), decide_eq_false (by omega)]; rfl
  rw [hin, Bool.true_and, hel _ (by omega)]
  have h1 : (((r + f - 1).toNat - 1 : Nat) : Int) + 1 = r + f - 1 := by omega
  rw [h1]
  have h2 : 1 ≤ (r + f - 1) * f := by
    have : 1 * 1 ≤ (r + f - 1) * f := Int.mul_le_mul (by omega) hf0 (by omega) (by omega)
    omega
  have h3 : (r + f - (r + f - 1)) * r = r := by rw [show r + f - (r + f - 1) = 1 by omega, Int.one_mul]
  have h4 : ¬ triE r f (r + f - 1) = 0 := by unfold triE; rw [h3]; omega
  simp [h4]
theorem cas_in {k : Int} (hk : 1 ≤ k) (m s : Nat) {t : Nat} (ht : t < s + 1) : 0 ≤ casF k m s t ∧ casF k m s t ≤ 1073741824 := by
  refine ⟨(casF_bd hk m s t).1, ?_⟩
  have h1 := sum_cas k m s
  have : ∀ n, t < n → casF k m s t ≤ sumF (casF k m s) n := fun n hn => sumF_elem (fun i => (casF_bd hk m s i).1) hn
  have := this (s + 1) ht
  omega
theorem cas_valid {n k s : Int} (h : casOk n k s) : 1 ≤ (casL k (n - 1).toNat (s - 1).toNat).length ∧ (validB (casL k (n - 1).toNat (s - 1).toNat) = true ∨ validB (casL k (n - 1).toNat (s - 1).toNat) = false ∧ el (casL k (n - 1).toNat (s - 1).toNat) ((casL k (n - 1).toNat (s - 1).toNat).length - 1) = 0) := by
  obtain ⟨h1, h2, h3, h4, h5, h6⟩ := h
  have hl : (casL k (n - 1).toNat (s - 1).toNat).length = (s - 1).toNat + 1 := fl_length _ _
  refine ⟨by omega, ?_⟩
  have hin : inB 1073741824 (casL k (n - 1).toNat (s - 1).toNat) = true := by
    apply in_all
    intro t ht
    rw [hl] at ht
    have : el (casL k (n - 1).toNat (s - 1).toNat) t = casF k (n - 1).toNat (s - 1).toNat t := el_fl _ ht
    have hb := cas_in h3 (n - 1).toNat (s - 1).toNat ht
    rw [this]; unfold badB
    rw [decide_eq_false (by omega), decide_eq_false (by omega)]; rfl
  unfold validB
  rw [hin, decide_eq_true (by omega), decide_eq_true (by omega)]
  by_cases hz : el (casL k (n - 1).toNat (s - 1).toNat) ((casL k (n - 1).toNat (s - 1).toNat).length - 1) = 0
  · exact .inr ⟨by rw [hz]; rfl, hz⟩
  · have hz2 : (el (casL k (n - 1).toNat (s - 1).toNat) ((casL k (n - 1).toNat (s - 1).toNat).length - 1) == 0) = false := by rw [beq_eq_false_iff_ne]; exact hz
    exact .inl (by rw [hz2]; rfl)
theorem tri_cases (r f : Int) : ((TriV r f).2 = 0 ∧ validB (TriV r f).1 = true) ∨ (TriV r f).2 ≠ 0 := by
  unfold TriV
  split
  · exact .inl ⟨rfl, tri_valid (by assumption)⟩
  · exact .inr (by decide)
theorem cas_cases (n k s : Int) : ((CasV n k s).2 = 0 ∧ 1 ≤ (CasV n k s).1.length ∧ (validB (CasV n k s).1 = true ∨ validB (CasV n k s).1 = false ∧ el (CasV n k s).1 ((CasV n k s).1.length - 1) = 0)) ∨ (CasV n k s).2 ≠ 0 := by
  unfold CasV
  split
  · exact .inl ⟨rfl, cas_valid (by assumption)⟩
  · exact .inr (by decide)

set_option maxRecDepth 100000 in
set_option maxHeartbeats 4000000 in
theorem Units_calls {A : Option Addr} {n c : Nat} {zs : List Int} (r f nn k s : Int) (w : World) (h : Ints w A n c zs) :
    Calls Try.prog 3 #[.slice A n c, .int .i64 r, .int .i64 f, .int .i64 nn, .int .i64 k, .int .i64 s] w fun e w' => e = .returned (.bool true) ∧ Below w.heap.size w w' := by
  have H := Lib.hid h
  have t1 := fun W => Triangle_calls r f W
  have t2 := fun W => Triangle_ref r f W
  have c1 := fun W => Cascade_calls nn k s W
  have c2 := fun W => Cascade_ref nn k s W
  have tc := tri_cases r f
  have cc := cas_cases nn k s
  generalize TriV r f = VT at *
  generalize CasV nn k s = VC at *
  obtain ⟨lt, xt⟩ := VT
  obtain ⟨lc, xc⟩ := VC
  have T1 := Lib.hid t1
  have T2 := Lib.hid t2
  have C1 := Lib.hid c1
  have C2 := Lib.hid c2
  have TC := Lib.hid tc
  have CC := Lib.hid cc
  clear h t1 t2 c1 c2 tc cc
  go_enter Try.func3, Try.ntmps3
  go_wp2_with fail
  refine (awake_calls _).mono ?_
  rintro e w1 ⟨rfl, b1⟩
  have m1 := many_calls 100 1000 (by omega) (by omega) w1 (H.out.below b1)
  generalize (decide ((100 : Int) < n) && decide ((n : Int) ≤ 1000) || decide ((1000 : Int) + 100 < n)) = p at *
  have B1 := Lib.hid b1
  have M1 := Lib.hid m1
  clear b1 m1
  cases p
  · go_wp2_with fail
    refine M1.out.mono ?_
    rintro e w2 ⟨rfl, rfl⟩
    by_cases hs : 100 < s ∧ s ≤ 1000
    · obtain ⟨hs1, hs2⟩ := hs
      go_wp2
      go_ret
      exact ⟨rfl, B1.out⟩
    · have hs' : ¬ 100 < s ∨ (100 < s ∧ ¬ s ≤ 1000) := by omega
      clear hs
      rcases hs' with hs1 | ⟨hs1, hs2⟩
      all_goals
        go_wp2_with fail
        refine (T1.out _).mono ?_
        rintro e w2 ⟨A1, n1, q1, rfl, i1, b2, -⟩
        have J1 := Lib.hid i1
        have B2 := Lib.hid (below_then B1.out b2 B1.out.size)
        clear i1 b2
        go_wp2_with fail
        refine (T2.out _).mono ?_
        rintro e w3 ⟨A2, n2, q2, rfl, i2, b3, -⟩
        have K1 := Lib.hid (J1.out.below b3)
        have K2 := Lib.hid i2
        have B3 := Lib.hid (below_then B2.out b3 B2.out.size)
        clear i2 b3 J1 B2
        go_wp2_with fail
        refine (C1.out _).mono ?_
        rintro e w4 ⟨A3, n3, q3, rfl, i3, b4, -⟩
        have L1 := Lib.hid (K1.out.below b4)
        have L2 := Lib.hid (K2.out.below b4)
        have L3 := Lib.hid i3
        have B4 := Lib.hid (below_then B3.out b4 B3.out.size)
        clear i3 b4 K1 K2 B3
        go_wp2_with fail
        refine (C2.out _).mono ?_
        rintro e w5 ⟨A4, n4, q4, rfl, i4, b5, -⟩
        have N1 := Lib.hid (L1.out.below b5)
        have N2 := Lib.hid (L2.out.below b5)
        have N3 := Lib.hid (L3.out.below b5)
        have N4 := Lib.hid i4
        have B5 := Lib.hid (below_then B4.out b5 B4.out.size)
        have v1 := Valid_calls w5 (H.out.below B5.out)
        have V1 := Lib.hid v1
        clear i4 b5 L1 L2 L3 B4 v1
        go_wp2_with fail
        refine V1.out.mono ?_
        rintro e w6 ⟨rfl, b6⟩
        have O1 := Lib.hid (N1.out.below b6)
        have O2 := Lib.hid (N2.out.below b6)
        have O3 := Lib.hid (N3.out.below b6)
        have O4 := Lib.hid (N4.out.below b6)
        have B6 := Lib.hid (below_then B5.out b6 B5.out.size)
        have v2 := Valid_ref w6 (H.out.below B6.out)
        have e1 := equal_calls w6 O1.out O2.out
        rw [decide_eq_true rfl] at e1
        have V2 := Lib.hid v2
        have E1 := Lib.hid e1
        generalize validB zs = vz at *
        clear b6 N1 N2 N3 N4 B5 v2 e1
        go_wp2_with fail
        refine V2.out.mono ?_
        rintro e w7 ⟨rfl, rfl⟩
        go_wp2_with fail
        refine E1.out.mono ?_
        rintro e w7 ⟨rfl, b7⟩
        have P1 := Lib.hid (O1.out.below b7)
        have P3 := Lib.hid (O3.out.below b7)
        have P4 := Lib.hid (O4.out.below b7)
        have B7 := Lib.hid (below_then B6.out b7 B6.out.size)
        have e2 := equal_calls w7 P3.out P4.out
        rw [decide_eq_true rfl] at e2
        have E2 := Lib.hid e2
        clear b7 O1 O2 O3 O4 B6 e2 E1
        go_wp2_with fail
        refine E2.out.mono ?_
        rintro e w8 ⟨rfl, b8⟩
        have Q1 := Lib.hid (P1.out.below b8)
        have Q3 := Lib.hid (P3.out.below b8)
        have B8 := Lib.hid (below_then B7.out b8 B7.out.size)
        clear b8 P1 P3 P4 B7 E2
        rcases TC.out with ⟨ht0, htv⟩ | ht0
        · have k1 : ((xt : Int) != 0) = false := by rw [bne_eq_false_iff_eq]; exact ht0
          have va := Valid_calls w8 Q1.out
          rw [htv] at va
          have VA := Lib.hid va
          clear ht0 htv va
          go_wp2_with fail
          refine VA.out.mono ?_
          rintro e w9 ⟨rfl, b9⟩
          have R3 := Lib.hid (Q3.out.below b9)
          have B9 := Lib.hid (below_then B8.out b9 B8.out.size)
          clear b9
          rcases CC.out with ⟨hc0, hcl, hcv⟩ | hc0
          · have k2 : ((xc : Int) != 0) = false := by rw [bne_eq_false_iff_eq]; exact hc0
            have vc := Valid_calls _ R3.out
            rcases hcv with hv | ⟨hv, hz⟩
            · rw [hv] at vc
              have VC := Lib.hid vc
              clear hv vc hcl hc0
              go_wp2_with fail
              refine VC.out.mono ?_
              rintro e w10 ⟨rfl, b10⟩
              have B10 := Lib.hid (below_then B9.out b10 B9.out.size)
              clear b10
              go_wp2
              go_ret
              exact ⟨rfl, B10.out⟩
            · rw [hv] at vc
              have VC := Lib.hid vc
              have hlen := R3.out.len
              have hcap := R3.out.cap
              have hmax := R3.out.max
              have HZ := Lib.hid hz
              have HLEN := Lib.hid hlen
              have n3p : (1 : Int) ≤ n3 := by omega
              clear hv vc hc0 hz hlen hcl
              go_wp2_with fail
              refine VC.out.mono ?_
              rintro e w10 ⟨rfl, b10⟩
              have B10 := Lib.hid (below_then B9.out b10 B9.out.size)
              obtain ⟨ad, hA3, hlt, hc⟩ := (R3.out.below b10).at_ (show n3 - 1 < n3 by omega)
              subst hA3
              rw [← HLEN.out, HZ.out, HLEN.out] at hc
              have e1 : (n3 : Int) - 1 = ((n3 - 1 : Nat) : Int) := by omega
              clear b10
              go_wp2
              go_ret
              exact ⟨rfl, B10.out⟩
          · have k2 : ((xc : Int) != 0) = true := by rw [bne_iff_ne]; exact hc0
            clear hc0
            go_wp2
            go_ret
            exact ⟨rfl, B9.out⟩
        · have k1 : ((xt : Int) != 0) = true := by rw [bne_iff_ne]; exact ht0
          clear ht0
          rcases CC.out with ⟨hc0, hcl, hcv⟩ | hc0
          · have k2 : ((xc : Int) != 0) = false := by rw [bne_eq_false_iff_eq]; exact hc0
            have vc := Valid_calls _ Q3.out
            rcases hcv with hv | ⟨hv, hz⟩
            · rw [hv] at vc
              have VC := Lib.hid vc
              clear hv vc hcl hc0
              go_wp2_with fail
              refine VC.out.mono ?_
              rintro e w10 ⟨rfl, b10⟩
              have B10 := Lib.hid (below_then B8.out b10 B8.out.size)
              clear b10
              go_wp2
              go_ret
              exact ⟨rfl, B10.out⟩
            · rw [hv] at vc
              have VC := Lib.hid vc
              have hlen := Q3.out.len
              have hcap := Q3.out.cap
              have hmax := Q3.out.max
              have HZ := Lib.hid hz
              have HLEN := Lib.hid hlen
              have n3p : (1 : Int) ≤ n3 := by omega
              clear hv vc hc0 hz hlen hcl
              go_wp2_with fail
              refine VC.out.mono ?_
              rintro e w10 ⟨rfl, b10⟩
              have B10 := Lib.hid (below_then B8.out b10 B8.out.size)
              obtain ⟨ad, hA3, hlt, hc⟩ := (Q3.out.below b10).at_ (show n3 - 1 < n3 by omega)
              subst hA3
              rw [← HLEN.out, HZ.out, HLEN.out] at hc
              have e1 : (n3 : Int) - 1 = ((n3 - 1 : Nat) : Int) := by omega
              clear b10
              go_wp2
              go_ret
              exact ⟨rfl, B10.out⟩
          · have k2 : ((xc : Int) != 0) = true := by rw [bne_iff_ne]; exact hc0
            clear hc0
            go_wp2
            go_ret
            exact ⟨rfl, B8.out⟩
  · go_wp2_with fail
    refine M1.out.mono ?_
    rintro e w2 ⟨rfl, rfl⟩
    go_wp2
    go_ret
    exact ⟨rfl, B1.out⟩
end Go.Proofs.Ytlkocedhhdknoaa
