/- Looking through a list with the closure of gauge.Valid. -/
import Derived.Test.YtchnfahgmceohaaValid
namespace Go.Proofs.Ytchnfahgmceohaa
open Go.RowKit
set_option linter.unusedVariables false

/-- Whether z is no depth. -/
def badD (z : Int) : Bool := decide (z < -1) || decide (4194304 < z)
theorem gval1_calls (z : Int) (w : World) :
    Calls Try.prog 43 #[.int .i64 z] w fun e w' => e = .returned (.bool (badD z)) ∧ w = w' := by
  unfold badD
  by_cases h : z < -1
  · rw [decide_eq_true h, Bool.true_or]
    go_enter Try.func43, Try.ntmps43
    go_wp2
    go_ret
    exact ⟨rfl, rfl⟩
  · rw [decide_eq_false h, Bool.false_or]
    go_enter Try.func43, Try.ntmps43
    go_wp2
    go_ret
    exact ⟨rfl, rfl⟩

set_option maxHeartbeats 1000000 in
theorem indexFunc_dep {A : Option Addr} {n c : Nat} {zs : List Int} (w : World) (h : Ints w A n c zs) :
    Calls Try.prog 48 #[.slice A n c, .func (.func 43) #[] #[]] w (Found badD zs w) := by
  have hcap := h.cap
  have hmax := h.max
  have hfew := h.few
  have HL := Lib.hid h.len
  have H := Lib.hid h
  have hcl := fun z => gval1_calls z w
  have HC := Lib.hid hcl
  clear h hcl
  go_enter Try.func48, Try.ntmps48
  go_wp2
  go_loop [8] (fun i => ∃ k : Nat, k ≤ n ∧ i = .int .i64 k ∧ ∀ j, j < k → badD (el zs j) = false) (fun i => n - (intOf i).toNat)
  case atStart => exact ⟨0, Nat.zero_le _, rfl, fun j hj => absurd hj (by omega)⟩
  case round =>
    obtain ⟨k, hk, rfl, hno⟩ := hrel
    have HN := Lib.hid hno
    clear hno
    by_cases hlt : k < n
    · obtain ⟨ad, rfl, hl, hc⟩ := H.out.at_ hlt
      cases hbad : badD (el zs k)
      · have HB := Lib.hid hbad
        have hcl := HC.out (el zs k)
        rw [hbad] at hcl
        have HCL := Lib.hid hcl
        clear hbad hcl
        go_wp2_with fail
        refine (HCL.out).mono ?_
        rintro e w' ⟨rfl, rfl⟩
        go_wp2
        go_round
        case rel => exact ⟨k + 1, by omega, by go_num, fun j hj => by
          by_cases hjk : j = k
          · subst hjk; exact HB.out
          · exact HN.out j (by omega)⟩
        case measure => simp [intOf]; try omega
      · have HB := Lib.hid hbad
        have hcl := HC.out (el zs k)
        rw [hbad] at hcl
        have HCL := Lib.hid hcl
        clear hbad hcl
        go_wp2_with fail
        refine (HCL.out).mono ?_
        rintro e w' ⟨rfl, rfl⟩
        go_wp2
        go_ret
        exact ⟨k, rfl, rfl, by omega, by omega, by rw [any_at (by rw [HL.out]; exact hlt) HB.out, decide_eq_true (by omega)]⟩
    · go_wp2
      go_ret
      exact ⟨-1, rfl, rfl, by omega, by omega, by rw [any_take (fun j hj => HN.out j (by rw [HL.out] at hj; omega))]; rfl⟩
theorem containsFunc_dep {A : Option Addr} {n c : Nat} {zs : List Int} (w : World) (h : Ints w A n c zs) :
    Calls Try.prog 19 #[.slice A n c, .func (.func 43) #[] #[]] w fun e w' => e = .returned (.bool (zs.any badD)) ∧ w = w' := by
  have HI := Lib.hid (indexFunc_dep w h)
  clear h
  go_enter Try.func19, Try.ntmps19
  go_wp2_with fail
  refine (HI.out).mono ?_
  rintro e w' ⟨r, rfl, rfl, hr0, hr1, hr⟩
  have HR := Lib.hid hr
  clear hr
  go_wp2
  go_ret
  exact ⟨ret_b HR.out.symm, rfl⟩
end Go.Proofs.Ytchnfahgmceohaa
