/- Valid, stock, given of the program. -/
import Derived.Test.YtihaabdgligbbaaCondLaw
import Derived.Test.YtihaabdgligbbaaFind
namespace Go.Proofs.Ytihaabdgligbbaa
open Go.RowKit
set_option linter.unusedVariables false

set_option maxHeartbeats 1000000 in
theorem Valid_calls {A : Option Addr} {n c : Nat} {ts : List (List Int)} (w : World) (h : Tab w A n c ts) :
    Calls Try.prog 30 #[.slice A n c] w fun e w' => e = .returned (.bool (validT ts)) ∧ w = w' := by
  have HL := Lib.hid h.len
  have hcap := h.cap
  have hmax := h.max
  have H := Lib.hid h
  clear h
  obtain ⟨V, hV⟩ : ∃ V, validT ts = V := ⟨_, rfl⟩
  rw [hV]
  unfold validT at hV
  rw [HL.out] at hV
  have HV := Lib.hid hV
  clear hV
  by_cases h1 : (n : Int) < 1
  · have hv : V = false := by rw [← HV.out, decide_eq_false (show ¬ 1 ≤ n by omega), Bool.false_and]
    subst hv
    go_enter Try.func30, Try.ntmps30
    go_wp2
    go_ret
    exact ⟨rfl, rfl⟩
  by_cases h2 : 8 < (n : Int)
  · have hv : V = false := by rw [← HV.out, decide_eq_false (show ¬ n ≤ 8 by omega), Bool.false_and, Bool.and_false]
    subst hv
    go_enter Try.func30, Try.ntmps30
    go_wp2
    go_ret
    exact ⟨rfl, rfl⟩
  replace HV : Hid (rowsB ts n = V) := Lib.hid (by
    have := HV.out
    rwa [decide_eq_true (show 1 ≤ n by omega), decide_eq_true (show n ≤ 8 by omega), Bool.true_and, Bool.true_and] at this)
  go_enter Try.func30, Try.ntmps30
  go_wp2
  go_loop [15] (fun i => ∃ k : Nat, k ≤ n ∧ i = .int .i64 k ∧ ∀ j, j < k → rowB n j (tl ts j) = true) (fun i => n - (intOf i).toNat)
  case atStart => exact ⟨0, Nat.zero_le _, rfl, fun j hj => absurd hj (by omega)⟩
  case round =>
    obtain ⟨k, hk, rfl, hyes⟩ := hrel
    have HY := Lib.hid hyes
    clear hyes
    by_cases hlt : k < n
    · obtain ⟨ad, A', n', c', rfl, hl, hc, hi⟩ := H.out.at_ hlt
      have HR : Hid (rowB n k (tl ts k) = false → V = false) := Lib.hid fun h => by rw [← HV.out]; exact rowsB_not hlt (by rw [HL.out]; exact h)
      have HLI := Lib.hid hi.len
      have hc' := hi.cap
      have hm' := hi.max
      generalize htl : tl ts k = l at *
      by_cases e1 : n' = n
      · subst e1
        have hne : ((n' : Int) != (n' : Int)) = false := by simp
        have hcf := containsFunc_calls 56 (badB 1000000) w hi (.inl rfl) (fun z => valid1_calls z w)
        obtain ⟨b, hb⟩ : ∃ b, l.any (badB 1000000) = b := ⟨_, rfl⟩
        rw [hb] at hcf
        have HCF := Lib.hid hcf
        have HB := Lib.hid hb
        have HII := Lib.hid hi
        clear hcf hb hi
        cases b
        · have hin : inB 1000000 l = true := by unfold inB anyBad; rw [HB.out]; rfl
          have s1 := sum_calls w HII.out (fits_of_in hin (by rw [HLI.out]; omega) (by omega) (by omega))
          have hin2 : inB 1000000 (l.take k) = true := inB_iff.2 fun z hz => inB_iff.1 hin z (List.mem_of_mem_take hz)
          have s2 := sum_calls w (HII.out.take (show k ≤ n' by omega)) (fits_of_in hin2 (by rw [List.length_take, HLI.out]; omega) (by omega) (by omega))
          rw [sum_take (by rw [HLI.out]; omega)] at s2
          have HIN := Lib.hid hin
          obtain ⟨S, hS⟩ : ∃ S, sumL l = S := ⟨_, rfl⟩
          obtain ⟨T, hT⟩ : ∃ T, sumF (el l) k = T := ⟨_, rfl⟩
          rw [hS] at s1
          rw [hT] at s2
          have HS := Lib.hid hS
          have HT := Lib.hid hT
          have S1 := Lib.hid s1
          have S2 := Lib.hid s2
          clear s1 s2 hS hT hin hin2
          by_cases e2 : S = 1000000
          · have e2' : ((S : Int) != 1000000) = false := by simp [e2]
            by_cases e3 : T = 0
            · have e3' : ((T : Int) != 0) = false := by simp [e3]
              have HG : Hid (rowB n' k l = true) := Lib.hid (by unfold rowB; rw [HLI.out, HIN.out, HS.out, HT.out, e2, e3]; simp)
              clear e2 e3
              go_wp2_with fail
              refine HCF.out.mono ?_
              rintro e w' ⟨rfl, rfl⟩
              go_wp2_with fail
              refine S1.out.mono ?_
              rintro e w' ⟨rfl, rfl⟩
              go_wp2_with fail
              refine S2.out.mono ?_
              rintro e w' ⟨rfl, rfl⟩
              go_wp2
              go_round
              case rel => exact ⟨k + 1, by omega, by go_num, fun j hj => by
                by_cases hjk : j = k
                · subst hjk; rw [htl]; exact HG.out
                · exact HY.out j (by omega)⟩
              case measure => simp [intOf]; try omega
            · have e3' : ((T : Int) != 0) = true := by simp [e3]
              have hv : V = false := HR.out (by unfold rowB; rw [HT.out, decide_eq_false e3]; simp)
              subst hv
              clear e2 e3
              go_wp2_with fail
              refine HCF.out.mono ?_
              rintro e w' ⟨rfl, rfl⟩
              go_wp2_with fail
              refine S1.out.mono ?_
              rintro e w' ⟨rfl, rfl⟩
              go_wp2_with fail
              refine S2.out.mono ?_
              rintro e w' ⟨rfl, rfl⟩
              go_wp2
              go_ret
              exact ⟨rfl, rfl⟩
          · have e2' : ((S : Int) != 1000000) = true := by simp [e2]
            have hv : V = false := HR.out (by unfold rowB; rw [HS.out, decide_eq_false e2]; simp)
            subst hv
            clear e2
            go_wp2_with fail
            refine HCF.out.mono ?_
            rintro e w' ⟨rfl, rfl⟩
            go_wp2_with fail
            refine S1.out.mono ?_
            rintro e w' ⟨rfl, rfl⟩
            go_wp2
            go_ret
            exact ⟨rfl, rfl⟩
        · have hv : V = false := HR.out (by unfold rowB inB anyBad; rw [HB.out]; simp)
          subst hv
          go_wp2_with fail
          refine HCF.out.mono ?_
          rintro e w' ⟨rfl, rfl⟩
          go_wp2
          go_ret
          exact ⟨rfl, rfl⟩
      · have hne : ((n' : Int) != (n : Int)) = true := by simp; omega
        have hv : V = false := HR.out (by unfold rowB; rw [HLI.out, decide_eq_false e1]; simp)
        subst hv
        clear e1
        go_wp2
        go_ret
        exact ⟨rfl, rfl⟩
    · obtain rfl : k = n := by omega
      have hv : V = true := by rw [← HV.out, rowsB_all]; intro j hj; rw [HL.out]; exact HY.out j hj
      subst hv
      go_wp2
      go_ret
      exact ⟨rfl, rfl⟩

set_option maxHeartbeats 1000000 in
theorem stock_calls {A : Option Addr} {n c : Nat} {l : List Int} (w : World) (h : Ints w A n c l) :
    Calls Try.prog 58 #[.slice A n c] w fun e w' => e = .returned (.bool (stockB l)) ∧ w = w' := by
  have HL := Lib.hid h.len
  have hcap := h.cap
  have hmax := h.max
  have H := Lib.hid h
  clear h
  unfold stockB
  rw [HL.out]
  by_cases h1 : 1 ≤ (n : Int)
  · rw [decide_eq_true (show 1 ≤ n by omega), Bool.true_and]
    by_cases h2 : (n : Int) ≤ 8
    · rw [decide_eq_true (show n ≤ 8 by omega), Bool.true_and]
      have hcf := containsFunc_calls 66 (badB 1125899906842624) w H.out (.inr rfl) (fun z => stock1_calls z w)
      unfold inB anyBad
      obtain ⟨b, hb⟩ : ∃ b, l.any (badB 1125899906842624) = b := ⟨_, rfl⟩
      rw [hb] at hcf ⊢
      have HCF := Lib.hid hcf
      have HB := Lib.hid hb
      clear hcf hb
      cases b
      · have hin : inB 1125899906842624 l = true := by unfold inB anyBad; rw [HB.out]; rfl
        have s1 := sum_calls w H.out (fits_of_in hin (by rw [HL.out]; omega) (by omega) (by omega))
        obtain ⟨S, hS⟩ : ∃ S, sumL l = S := ⟨_, rfl⟩
        rw [hS] at s1 ⊢
        have S1 := Lib.hid s1
        clear s1 hS hin
        by_cases h3 : S ≤ 1125899906842624
        · rw [decide_eq_true h3]
          go_enter Try.func58, Try.ntmps58
          go_wp2_with fail
          refine HCF.out.mono ?_
          rintro e w' ⟨rfl, rfl⟩
          go_wp2_with fail
          refine S1.out.mono ?_
          rintro e w' ⟨rfl, rfl⟩
          go_wp2
          go_ret
          exact ⟨rfl, rfl⟩
        · rw [decide_eq_false h3]
          go_enter Try.func58, Try.ntmps58
          go_wp2_with fail
          refine HCF.out.mono ?_
          rintro e w' ⟨rfl, rfl⟩
          go_wp2_with fail
          refine S1.out.mono ?_
          rintro e w' ⟨rfl, rfl⟩
          go_wp2
          go_ret
          exact ⟨ret_b (by rw [decide_eq_false (by omega)]; rfl), rfl⟩
      · go_enter Try.func58, Try.ntmps58
        go_wp2_with fail
        refine HCF.out.mono ?_
        rintro e w' ⟨rfl, rfl⟩
        go_wp2
        go_ret
        exact ⟨rfl, rfl⟩
    · rw [decide_eq_false (show ¬ n ≤ 8 by omega), Bool.false_and]
      go_enter Try.func58, Try.ntmps58
      go_wp2
      go_ret
      exact ⟨rfl, rfl⟩
  · rw [decide_eq_false (show ¬ 1 ≤ n by omega), Bool.false_and]
    go_enter Try.func58, Try.ntmps58
    go_wp2
    go_ret
    exact ⟨rfl, rfl⟩

set_option maxHeartbeats 1000000 in
theorem given_calls {A A' : Option Addr} {n c n' c' : Nat} {ts : List (List Int)} {l : List Int} (w : World) (h : Tab w A n c ts) (h' : Ints w A' n' c' l) :
    Calls Try.prog 44 #[.slice A n c, .slice A' n' c'] w fun e w' => e = .returned (.int .i64 (givenE ts l)) ∧ w = w' := by
  have HL := Lib.hid h.len
  have HL' := Lib.hid h'.len
  have hcap := h.cap
  have hmax := h.max
  have hcap' := h'.cap
  have hmax' := h'.max
  have v := Valid_calls w h
  have s := stock_calls w h'
  obtain ⟨G, hG⟩ : ∃ G, givenE ts l = G := ⟨_, rfl⟩
  rw [hG]
  unfold givenE at hG
  generalize validT ts = bv at *
  generalize stockB l = bs at *
  rw [HL.out, HL'.out] at hG
  have HG := Lib.hid hG
  have HV := Lib.hid v
  have HS := Lib.hid s
  clear v s hG h h'
  cases bv
  · obtain rfl : G = 1 := by rw [← HG.out]; rfl
    go_enter Try.func44, Try.ntmps44
    go_wp2_with fail
    refine HV.out.mono ?_
    rintro e w' ⟨rfl, rfl⟩
    go_wp2
    go_ret
    exact ⟨rfl, rfl⟩
  · cases bs
    · obtain rfl : G = 1 := by rw [← HG.out]; rfl
      go_enter Try.func44, Try.ntmps44
      go_wp2_with fail
      refine HV.out.mono ?_
      rintro e w' ⟨rfl, rfl⟩
      go_wp2_with fail
      refine HS.out.mono ?_
      rintro e w' ⟨rfl, rfl⟩
      go_wp2
      go_ret
      exact ⟨rfl, rfl⟩
    · by_cases e1 : n' = n
      · subst e1
        have hne : ((n' : Int) != (n' : Int)) = false := by simp
        obtain rfl : G = 0 := by rw [← HG.out]; simp
        go_enter Try.func44, Try.ntmps44
        go_wp2_with fail
        refine HV.out.mono ?_
        rintro e w' ⟨rfl, rfl⟩
        go_wp2_with fail
        refine HS.out.mono ?_
        rintro e w' ⟨rfl, rfl⟩
        go_wp2
        go_ret
        exact ⟨rfl, rfl⟩
      · have hne : ((n' : Int) != (n : Int)) = true := by simp; omega
        obtain rfl : G = 3 := by rw [← HG.out]; simp; omega
        go_enter Try.func44, Try.ntmps44
        go_wp2_with fail
        refine HV.out.mono ?_
        rintro e w' ⟨rfl, rfl⟩
        go_wp2_with fail
        refine HS.out.mono ?_
        rintro e w' ⟨rfl, rfl⟩
        go_wp2
        go_ret
        exact ⟨rfl, rfl⟩
end Go.Proofs.Ytihaabdgligbbaa
