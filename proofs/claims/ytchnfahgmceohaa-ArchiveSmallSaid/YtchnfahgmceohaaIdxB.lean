/- unfolded; the first byte that is below 128. -/
import Derived.Test.YtchnfahgmceohaaGetLaw
import Derived.Test.YtchnfahgmceohaaPut
namespace Go.Proofs.Ytchnfahgmceohaa
open Go.RowKit
set_option linter.unusedVariables false

set_option maxHeartbeats 1000000 in
theorem unfolded_calls (n : Nat) (w : World) (h : (n : Int) ≤ 1152921504606846976) : Calls Try.prog 66 #[.int .i64 n] w fun e w' => e = .returned (.int .i64 (unfoldN n)) ∧ w' = w := by
  unfold unfoldN
  by_cases h1 : n % 2 = 1
  · rw [if_pos h1]
    obtain ⟨q, hq⟩ : ∃ q : Nat, n = 2 * q + 1 := ⟨n / 2, by omega⟩
    have e0 : (n : Int).tmod 2 = 1 := by rw [Int.tmod_eq_emod_of_nonneg (by omega)]; omega
    have e1 : ((n : Int) + 1) = ((2 * q + 2 : Nat) : Int) := by omega
    obtain ⟨m, hm⟩ : ∃ m : Nat, 2 * q + 2 = m := ⟨_, rfl⟩
    rw [hm] at e1
    have e2 : (-(m : Int)).tdiv 2 = -(((n + 1) / 2 : Nat) : Int) := by rw [Int.neg_tdiv, Int.tdiv_eq_ediv_of_nonneg (by omega)]; omega
    have e3 : -1152921504606846980 ≤ -(((n + 1) / 2 : Nat) : Int) ∧ -(((n + 1) / 2 : Nat) : Int) ≤ 0 := by omega
    generalize -(((n + 1) / 2 : Nat) : Int) = R at *
    obtain ⟨e4, e5⟩ := e3
    clear hq hm
    go_enter Try.func66, Try.ntmps66
    go_wp2
    go_ret
    exact ⟨rfl, rfl⟩
  · rw [if_neg h1]
    have e0 : (n : Int).tmod 2 = 0 := by rw [Int.tmod_eq_emod_of_nonneg (by omega)]; omega
    have e2 : (n : Int).tdiv 2 = ((n / 2 : Nat) : Int) := by rw [Int.tdiv_eq_ediv_of_nonneg (by omega)]; omega
    have e3 : 0 ≤ ((n / 2 : Nat) : Int) ∧ ((n / 2 : Nat) : Int) ≤ 1152921504606846976 := by omega
    generalize ((n / 2 : Nat) : Int) = R at *
    obtain ⟨e4, e5⟩ := e3
    go_enter Try.func66, Try.ntmps66
    go_wp2
    go_ret
    exact ⟨rfl, rfl⟩

theorem number1_calls (b : Int) (w : World) (h0 : 0 ≤ b) (h1 : b ≤ 255) : Calls Try.prog 65 #[.int .u8 b] w fun e w' => e = .returned (.bool (decide (b < 128))) ∧ w' = w := by
  go_enter Try.func65, Try.ntmps65
  go_wp2
  go_ret
  exact ⟨rfl, rfl⟩

set_option maxRecDepth 100000 in
set_option maxHeartbeats 2000000 in
theorem indexFunc_bytes {A : Option Addr} {n c : Nat} {bs : List Int} (w : World) (h : Byts w A n c bs) :
    Calls Try.prog 64 #[.slice A n c, .func (.func 65) #[] #[]] w fun e w' => e = .returned (.int .i64 (if n ≤ frst bs then -1 else (frst bs : Int))) ∧ w' = w := by
  have hcap := h.cap
  have hmax := h.max
  have hfew := h.few
  have HL := Lib.hid h.len
  have H := Lib.hid h
  clear h
  obtain ⟨R, hR⟩ : ∃ R : Int, (if n ≤ frst bs then -1 else (frst bs : Int)) = R := ⟨_, rfl⟩
  have HR := Lib.hid hR
  rw [hR]
  clear hR
  go_enter Try.func64, Try.ntmps64
  go_wp2
  go_loopw [8] (fun i wr => ∃ k : Nat, k ≤ n ∧ i = .int .i64 k ∧ (∀ j, j < k → 128 ≤ el bs j) ∧ wr = w) (fun i _ => n - (intOf i).toNat)
  case atStart => exact ⟨0, Nat.zero_le _, rfl, fun j hj => absurd hj (by omega), rfl⟩
  case round =>
    obtain ⟨k, hk, rfl, hno, rfl⟩ := hrel
    have HN := Lib.hid hno
    clear hno
    by_cases hlt : k < n
    · obtain ⟨ad, rfl, hl, hc⟩ := H.out.at_ hlt
      obtain ⟨z0, z1⟩ := H.out.rngD k
      have cl := number1_calls (el bs k) wr z0 z1
      by_cases hz : el bs k < 128
      · have HF : Hid (R = (k : Int)) := Lib.hid (by rw [← HR.out, frst_at (by rw [HL.out]; exact hlt) (fun j hj => by have := HN.out j hj; omega) hz, if_neg (by omega)])
        rw [decide_eq_true hz] at cl
        have CL := Lib.hid cl
        clear cl
        go_wp2_with fail
        refine (CL.out).mono ?_
        rintro e w1 ⟨rfl, rfl⟩
        go_wp2
        go_ret
        exact ⟨by rw [HF.out]; rfl, rfl⟩
      · have HX : Hid (∀ j, j < k + 1 → 128 ≤ el bs j) := Lib.hid fun j hj => by
          by_cases hjk : j = k
          · subst hjk; omega
          · exact HN.out j (by omega)
        rw [decide_eq_false hz] at cl
        have CL := Lib.hid cl
        clear cl
        go_wp2_with fail
        refine (CL.out).mono ?_
        rintro e w1 ⟨rfl, rfl⟩
        go_wp2
        go_roundw
        case rel => exact ⟨k + 1, by omega, by go_num, HX.out, by trivial⟩
        case measure => simp [intOf]; try omega
    · obtain rfl : k = n := by omega
      have HF : Hid (R = -1) := Lib.hid (by rw [← HR.out, frst_none (fun j hj => by have := HN.out j (by rw [HL.out] at hj; exact hj); omega), if_pos (by rw [HL.out]; exact Nat.le_refl _)])
      go_wp2
      go_ret
      exact ⟨by rw [HF.out]; rfl, rfl⟩
end Go.Proofs.Ytchnfahgmceohaa
