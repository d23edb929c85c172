/- row, Valid, Stock, Given of the reference. -/
import Derived.Test.YtihaabdgligbbaaCondLaw
import Derived.Test.YtihaabdgligbbaaFind
namespace Go.Proofs.Ytihaabdgligbbaa
open Go.RowKit
set_option linter.unusedVariables false

theorem sumF_zero {F : Nat → Int} {k : Nat} (h : ∀ j, j < k → F j = 0) : sumF F k = 0 := by
  induction k with
  | zero => rfl
  | succ k ih => rw [sumF, ih (fun j hj => h j (by omega)), h k (by omega)]; rfl
theorem sumF_pos {F : Nat → Int} {k j : Nat} (h : ∀ j, j < k → 0 ≤ F j) (hj : j < k) (hp : F j ≠ 0) : sumF F k ≠ 0 := by
  have h1 := sumF_le (F := F) (n := k) (k := j + 1) h hj
  have h2 := sumF_le (F := F) (n := j) (k := 0) (fun i hi => h i (by omega)) (by omega)
  have h3 := h j hj
  rw [sumF] at h1
  rw [show sumF F 0 = 0 from rfl] at h2
  omega

set_option maxHeartbeats 1000000 in
theorem row_ref {A : Option Addr} {n c : Nat} {l : List Int} (i m : Nat) (w : World) (h : Ints w A n c l) (hi : i < m) (hm : (m : Int) ≤ 8) :
    Calls Try.prog 54 #[.slice A n c, .int .i64 i, .int .i64 m] w fun e w' => e = .returned (.bool (rowB m i l)) ∧ w = w' := by
  have HL := Lib.hid h.len
  have hcap := h.cap
  have hmax := h.max
  have H := Lib.hid h
  clear h
  obtain ⟨V, hV⟩ : ∃ V, rowB m i l = V := ⟨_, rfl⟩
  rw [hV]
  have HV := Lib.hid hV
  clear hV
  by_cases e1 : n = m
  · subst e1
    have hne : ((n : Int) != (n : Int)) = false := by simp
    go_enter Try.func54, Try.ntmps54
    go_wp2
    go_loop [7] (fun x => ∃ k : Nat, k ≤ n ∧ x = .int .i64 k ∧ (∀ j, j < k → badB 1000000 (el l j) = false) ∧ ∀ j, j < k → j < i → el l j = 0) (fun x => n - (intOf x).toNat)
    case atStart => exact ⟨0, Nat.zero_le _, rfl, fun j hj => absurd hj (by omega), fun j hj => absurd hj (by omega)⟩
    case round =>
      obtain ⟨k, hk, rfl, hno, hze⟩ := hrel
      have HN := Lib.hid hno
      have HZ := Lib.hid hze
      clear hno hze
      by_cases hlt : k < n
      · obtain ⟨ad, rfl, hl, hc⟩ := H.out.at_ hlt
        have HS1 := Lib.hid (@in_step 1000000 l k HN.out)
        have HS2 := Lib.hid (@in_low 1000000 l k (by rw [HL.out]; exact hlt))
        have HS3 := Lib.hid (@in_high 1000000 l k (by rw [HL.out]; exact hlt))
        obtain ⟨y, hy⟩ : ∃ y, el l k = y := ⟨_, rfl⟩
        rw [hy] at hc HS1 HS2 HS3
        have HY := Lib.hid hy
        clear hy
        by_cases b0 : y < 0
        · have hv : V = false := by rw [← HV.out]; unfold rowB; rw [HS2.out b0]; simp
          subst hv
          go_wp2
          go_ret
          exact ⟨rfl, rfl⟩
        · by_cases b1 : 1000000 < y
          · have hv : V = false := by rw [← HV.out]; unfold rowB; rw [HS3.out b1]; simp
            subst hv
            go_wp2
            go_ret
            exact ⟨rfl, rfl⟩
          · by_cases b2 : (k : Int) < i
            · by_cases b3 : y = 0
              · have b3' : ((y : Int) != 0) = false := by simp [b3]
                have HYZ := Lib.hid b3
                clear b3
                go_wp2
                go_round
                case rel => exact ⟨k + 1, by omega, by go_num, HS1.out (by omega) (by omega), fun j hj hji => by
                  by_cases hjk : j = k
                  · subst hjk; rw [HY.out, HYZ.out]
                  · exact HZ.out j (by omega) hji⟩
                case measure => simp [intOf]; try omega
              · have b3' : ((y : Int) != 0) = true := by simp [b3]
                have hv : V = false := by
                  rw [← HV.out]
                  unfold rowB
                  cases hin : inB 1000000 l
                  · simp
                  · rw [decide_eq_false (sumF_pos (F := el l) (k := i) (j := k) (fun j hj => (inB_el hin (by rw [HL.out]; omega)).1) (by omega) (by rw [HY.out]; exact b3))]
                    simp
                subst hv
                clear b3
                go_wp2
                go_ret
                exact ⟨rfl, rfl⟩
            · go_wp2
              go_round
              case rel => exact ⟨k + 1, by omega, by go_num, HS1.out (by omega) (by omega), fun j hj hji => HZ.out j (by omega) hji⟩
              case measure => simp [intOf]; try omega
      · obtain rfl : k = n := by omega
        have hin := in_all (fun j hj => HN.out j (by rw [HL.out] at hj; omega))
        have s1 := sum_ref w H.out (fits_of_in hin (by rw [HL.out]; omega) (by omega) (by omega))
        have hz : sumF (el l) i = 0 := sumF_zero (fun j hj => HZ.out j (by omega) hj)
        have hvv : V = (sumL l == 1000000) := by
          rw [← HV.out]; unfold rowB; rw [HL.out, hin, hz]; simp
          rfl
        subst hvv
        have S1 := Lib.hid s1
        clear s1 hin hz
        go_wp2_with fail
        refine S1.out.mono ?_
        rintro e w' ⟨rfl, rfl⟩
        go_wp2
        go_ret
        exact ⟨rfl, rfl⟩
  · have hne : ((n : Int) != (m : Int)) = true := by simp; omega
    have hv : V = false := by rw [← HV.out]; unfold rowB; rw [HL.out, decide_eq_false e1]; simp
    subst hv
    clear e1
    go_enter Try.func54, Try.ntmps54
    go_wp2
    go_ret
    exact ⟨rfl, rfl⟩

set_option maxHeartbeats 1000000 in
theorem Valid_ref {A : Option Addr} {n c : Nat} {ts : List (List Int)} (w : World) (h : Tab w A n c ts) :
    Calls Try.prog 29 #[.slice A n c] w fun e w' => e = .returned (.bool (validT ts)) ∧ w = w' := by
  have HL := Lib.hid h.len
  have hcap := h.cap
  have hmax := h.max
  have H := Lib.hid h
  clear h
  obtain ⟨V, hV⟩ : ∃ V, validT ts = V := ⟨_, rfl⟩
  rw [hV]
  unfold validT at hV
  rw [HL.out] at hV
  have HV := Lib.hid hV
  clear hV
  by_cases h1 : (n : Int) < 1
  · have hv : V = false := by rw [← HV.out, decide_eq_false (show ¬ 1 ≤ n by omega), Bool.false_and]
    subst hv
    go_enter Try.func29, Try.ntmps29
    go_wp2
    go_ret
    exact ⟨rfl, rfl⟩
  by_cases h2 : 8 < (n : Int)
  · have hv : V = false := by rw [← HV.out, decide_eq_false (show ¬ n ≤ 8 by omega), Bool.false_and, Bool.and_false]
    subst hv
    go_enter Try.func29, Try.ntmps29
    go_wp2
    go_ret
    exact ⟨rfl, rfl⟩
  replace HV : Hid (rowsB ts n = V) := Lib.hid (by
    have := HV.out
    rwa [decide_eq_true (show 1 ≤ n by omega), decide_eq_true (show n ≤ 8 by omega), Bool.true_and, Bool.true_and] at this)
  go_enter Try.func29, Try.ntmps29
  go_wp2
  go_loop [3] (fun i => ∃ k : Nat, k ≤ n ∧ i = .int .i64 k ∧ ∀ j, j < k → rowB n j (tl ts j) = true) (fun i => n - (intOf i).toNat)
  case atStart => exact ⟨0, Nat.zero_le _, rfl, fun j hj => absurd hj (by omega)⟩
  case round =>
    obtain ⟨k, hk, rfl, hyes⟩ := hrel
    have HY := Lib.hid hyes
    clear hyes
    by_cases hlt : k < n
    · obtain ⟨ad, A', n', c', rfl, hl, hc, hi⟩ := H.out.at_ hlt
      have HR : Hid (rowB n k (tl ts k) = false → V = false) := Lib.hid fun h => by rw [← HV.out]; exact rowsB_not hlt (by rw [HL.out]; exact h)
      have r := row_ref k n w hi hlt (by omega)
      obtain ⟨b, hb⟩ : ∃ b, rowB n k (tl ts k) = b := ⟨_, rfl⟩
      rw [hb] at r HR
      have HB := Lib.hid hb
      have R := Lib.hid r
      clear hb r hi
      cases b
      · have hv : V = false := HR.out rfl
        subst hv
        go_wp2_with fail
        refine R.out.mono ?_
        rintro e w' ⟨rfl, rfl⟩
        go_wp2
        go_ret
        exact ⟨rfl, rfl⟩
      · go_wp2_with fail
        refine R.out.mono ?_
        rintro e w' ⟨rfl, rfl⟩
        go_wp2
        go_round
        case rel => exact ⟨k + 1, by omega, by go_num, fun j hj => by
          by_cases hjk : j = k
          · subst hjk; exact HB.out
          · exact HY.out j (by omega)⟩
        case measure => simp [intOf]; try omega
    · obtain rfl : k = n := by omega
      have hv : V = true := by rw [← HV.out, rowsB_all]; intro j hj; rw [HL.out]; exact HY.out j hj
      subst hv
      go_wp2
      go_ret
      exact ⟨rfl, rfl⟩

set_option maxHeartbeats 1000000 in
theorem Stock_ref {A : Option Addr} {n c : Nat} {l : List Int} (w : World) (h : Ints w A n c l) :
    Calls Try.prog 36 #[.slice A n c] w fun e w' => e = .returned (.bool (stockB l)) ∧ w = w' := by
  have HL := Lib.hid h.len
  have hcap := h.cap
  have hmax := h.max
  have H := Lib.hid h
  clear h
  obtain ⟨V, hV⟩ : ∃ V, stockB l = V := ⟨_, rfl⟩
  rw [hV]
  unfold stockB at hV
  rw [HL.out] at hV
  have HV := Lib.hid hV
  clear hV
  by_cases h1 : (n : Int) < 1
  · have hv : V = false := by rw [← HV.out, decide_eq_false (show ¬ 1 ≤ n by omega), Bool.false_and]
    subst hv
    go_enter Try.func36, Try.ntmps36
    go_wp2
    go_ret
    exact ⟨rfl, rfl⟩
  by_cases h2 : 8 < (n : Int)
  · have hv : V = false := by rw [← HV.out, decide_eq_false (show ¬ n ≤ 8 by omega), Bool.false_and, Bool.and_false]
    subst hv
    go_enter Try.func36, Try.ntmps36
    go_wp2
    go_ret
    exact ⟨rfl, rfl⟩
  replace HV : Hid ((inB 1125899906842624 l && decide (sumL l ≤ 1125899906842624)) = V) := Lib.hid (by
    have := HV.out
    rwa [decide_eq_true (show 1 ≤ n by omega), decide_eq_true (show n ≤ 8 by omega), Bool.true_and, Bool.true_and] at this)
  go_enter Try.func36, Try.ntmps36
  go_wp2
  go_loop [3] (fun x => ∃ k : Nat, k ≤ n ∧ x = .int .i64 k ∧ (∀ j, j < k → badB 1125899906842624 (el l j) = false)) (fun x => n - (intOf x).toNat)
  case atStart => exact ⟨0, Nat.zero_le _, rfl, fun j hj => absurd hj (by omega)⟩
  case round =>
    obtain ⟨k, hk, rfl, hno⟩ := hrel
    have HN := Lib.hid hno
    clear hno
    by_cases hlt : k < n
    · obtain ⟨ad, rfl, hl, hc⟩ := H.out.at_ hlt
      have HS1 := Lib.hid (@in_step 1125899906842624 l k HN.out)
      have HS2 := Lib.hid (@in_low 1125899906842624 l k (by rw [HL.out]; exact hlt))
      have HS3 := Lib.hid (@in_high 1125899906842624 l k (by rw [HL.out]; exact hlt))
      generalize el l k = y at *
      by_cases b0 : y < 0
      · have hv : V = false := by rw [← HV.out, HS2.out b0]; rfl
        subst hv
        go_wp2
        go_ret
        exact ⟨rfl, rfl⟩
      · by_cases b1 : 1125899906842624 < y
        · have hv : V = false := by rw [← HV.out, HS3.out b1]; rfl
          subst hv
          go_wp2
          go_ret
          exact ⟨rfl, rfl⟩
        · go_wp2
          go_round
          case rel => exact ⟨k + 1, by omega, by go_num, HS1.out (by omega) (by omega)⟩
          case measure => simp [intOf]; try omega
    · obtain rfl : k = n := by omega
      have hin := in_all (fun j hj => HN.out j (by rw [HL.out] at hj; omega))
      have s1 := sum_ref w H.out (fits_of_in hin (by rw [HL.out]; omega) (by omega) (by omega))
      have hvv : V = decide (sumL l ≤ 1125899906842624) := by rw [← HV.out, hin, Bool.true_and]
      subst hvv
      have S1 := Lib.hid s1
      clear s1 hin
      go_wp2_with fail
      refine S1.out.mono ?_
      rintro e w' ⟨rfl, rfl⟩
      go_wp2
      all_goals (go_ret; first | exact ⟨rfl, rfl⟩ | exact ⟨ret_b (by simp; omega), rfl⟩)

set_option maxHeartbeats 1000000 in
theorem Given_ref50 {A A' : Option Addr} {n c n' c' : Nat} {ts : List (List Int)} {l : List Int} (w : World) (h : Tab w A n c ts) (h' : Ints w A' n' c' l) :
    Calls Try.prog 17 #[.slice A n c, .slice A' n' c'] w fun e w' => e = .returned (.int .i64 (givenE ts l)) ∧ w = w' := by
  have HL := Lib.hid h.len
  have HL' := Lib.hid h'.len
  have hcap := h.cap
  have hmax := h.max
  have hcap' := h'.cap
  have hmax' := h'.max
  have v := Valid_ref w h
  have s := Stock_ref w h'
  obtain ⟨G, hG⟩ : ∃ G, givenE ts l = G := ⟨_, rfl⟩
  rw [hG]
  unfold givenE at hG
  generalize validT ts = bv at *
  generalize stockB l = bs at *
  rw [HL.out, HL'.out] at hG
  have HG := Lib.hid hG
  have HV := Lib.hid v
  have HS := Lib.hid s
  clear v s hG h h'
  cases bv
  · obtain rfl : G = 1 := by rw [← HG.out]; rfl
    go_enter Try.func17, Try.ntmps17
    go_wp2_with fail
    refine HV.out.mono ?_
    rintro e w' ⟨rfl, rfl⟩
    go_wp2
    go_ret
    exact ⟨rfl, rfl⟩
  · cases bs
    · obtain rfl : G = 1 := by rw [← HG.out]; rfl
      go_enter Try.func17, Try.ntmps17
      go_wp2_with fail
      refine HV.out.mono ?_
      rintro e w' ⟨rfl, rfl⟩
      go_wp2_with fail
      refine HS.out.mono ?_
      rintro e w' ⟨rfl, rfl⟩
      go_wp2
      go_ret
      exact ⟨rfl, rfl⟩
    · by_cases e1 : n' = n
      · subst e1
        have hne : ((n' : Int) != (n' : Int)) = false := by simp
        obtain rfl : G = 0 := by rw [← HG.out]; simp
        go_enter Try.func17, Try.ntmps17
        go_wp2_with fail
        refine HV.out.mono ?_
        rintro e w' ⟨rfl, rfl⟩
        go_wp2_with fail
        refine HS.out.mono ?_
        rintro e w' ⟨rfl, rfl⟩
        go_wp2
        go_ret
        exact ⟨rfl, rfl⟩
      · have hne : ((n : Int) != (n' : Int)) = true := by simp; omega
        obtain rfl : G = 3 := by rw [← HG.out]; simp; omega
        go_enter Try.func17, Try.ntmps17
        go_wp2_with fail
        refine HV.out.mono ?_
        rintro e w' ⟨rfl, rfl⟩
        go_wp2_with fail
        refine HS.out.mono ?_
        rintro e w' ⟨rfl, rfl⟩
        go_wp2
        go_ret
        exact ⟨rfl, rfl⟩
end Go.Proofs.Ytihaabdgligbbaa
