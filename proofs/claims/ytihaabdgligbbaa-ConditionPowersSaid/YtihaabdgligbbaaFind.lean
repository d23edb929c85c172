/- Looking through a list: slices.IndexFunc, slices.ContainsFunc with a closure that captures nothing; the same at rows. -/
import Derived.Test.YtihaabdgligbbaaSum
namespace Go.Proofs.Ytihaabdgligbbaa
open Go.RowKit
set_option linter.unusedVariables false

theorem valid1_calls (z : Int) (w : World) :
    Calls Try.prog 56 #[.int .i64 z] w fun e w' => e = .returned (.bool (badB 1000000 z)) ∧ w = w' := by
  unfold badB
  by_cases h : z < 0
  · rw [decide_eq_true h, Bool.true_or]
    go_enter Try.func56, Try.ntmps56
    go_wp2
    go_ret
    exact ⟨rfl, rfl⟩
  · rw [decide_eq_false h, Bool.false_or]
    go_enter Try.func56, Try.ntmps56
    go_wp2
    go_ret
    exact ⟨rfl, rfl⟩
theorem stock1_calls (z : Int) (w : World) :
    Calls Try.prog 66 #[.int .i64 z] w fun e w' => e = .returned (.bool (badB 1125899906842624 z)) ∧ w = w' := by
  unfold badB
  by_cases h : z < 0
  · rw [decide_eq_true h, Bool.true_or]
    go_enter Try.func66, Try.ntmps66
    go_wp2
    go_ret
    exact ⟨rfl, rfl⟩
  · rw [decide_eq_false h, Bool.false_or]
    go_enter Try.func66, Try.ntmps66
    go_wp2
    go_ret
    exact ⟨rfl, rfl⟩

set_option maxHeartbeats 1000000 in
theorem indexFunc_calls {A : Option Addr} {n c : Nat} {zs : List Int} (f : Nat) (p : Int → Bool) (w : World) (h : Ints w A n c zs)
    (hf : f = 56 ∨ f = 66) (hcl : ∀ z, Calls Try.prog f #[.int .i64 z] w fun e w' => e = .returned (.bool (p z)) ∧ w = w') :
    Calls Try.prog 65 #[.slice A n c, .func (.func f) #[] #[]] w (Found p zs w) := by
  rcases hf with rfl | rfl
  all_goals (
    have hcap := h.cap
    have hmax := h.max
    have hfew := h.few
    have HL := Lib.hid h.len
    have H := Lib.hid h
    have HC := Lib.hid hcl
    clear h hcl
    go_enter Try.func65, Try.ntmps65
    go_wp2
    go_loop [8] (fun i => ∃ k : Nat, k ≤ n ∧ i = .int .i64 k ∧ ∀ j, j < k → p (el zs j) = false) (fun i => n - (intOf i).toNat)
    case atStart => exact ⟨0, Nat.zero_le _, rfl, fun j hj => absurd hj (by omega)⟩
    case round =>
      obtain ⟨k, hk, rfl, hno⟩ := hrel
      have HN := Lib.hid hno
      clear hno
      by_cases hlt : k < n
      · obtain ⟨ad, rfl, hl, hc⟩ := H.out.at_ hlt
        cases hbad : p (el zs k)
        · have HB := Lib.hid hbad
          have hcl := HC.out (el zs k)
          rw [hbad] at hcl
          have HCL := Lib.hid hcl
          clear hbad hcl
          go_wp2_with fail
          refine HCL.out.mono ?_
          rintro e w' ⟨rfl, rfl⟩
          go_wp2
          go_round
          case rel => exact ⟨k + 1, by omega, by go_num, fun j hj => by
            by_cases hjk : j = k
            · subst hjk; exact HB.out
            · exact HN.out j (by omega)⟩
          case measure => simp [intOf]; try omega
        · have HB := Lib.hid hbad
          have hcl := HC.out (el zs k)
          rw [hbad] at hcl
          have HCL := Lib.hid hcl
          clear hbad hcl
          go_wp2_with fail
          refine HCL.out.mono ?_
          rintro e w' ⟨rfl, rfl⟩
          go_wp2
          go_ret
          exact ⟨k, rfl, rfl, by omega, by omega, by rw [any_at (by rw [HL.out]; exact hlt) HB.out, decide_eq_true (by omega)]⟩
      · go_wp2
        go_ret
        exact ⟨-1, rfl, rfl, by omega, by omega, by rw [any_take (fun j hj => HN.out j (by rw [HL.out] at hj; omega))]; rfl⟩)

theorem containsFunc_calls {A : Option Addr} {n c : Nat} {zs : List Int} (f : Nat) (p : Int → Bool) (w : World) (h : Ints w A n c zs)
    (hf : f = 56 ∨ f = 66) (hcl : ∀ z, Calls Try.prog f #[.int .i64 z] w fun e w' => e = .returned (.bool (p z)) ∧ w = w') :
    Calls Try.prog 55 #[.slice A n c, .func (.func f) #[] #[]] w fun e w' => e = .returned (.bool (zs.any p)) ∧ w = w' := by
  have hi := indexFunc_calls f p w h hf hcl
  have HI := Lib.hid hi
  clear hi h hcl hf
  go_enter Try.func55, Try.ntmps55
  go_wp2_with fail
  refine HI.out.mono ?_
  rintro e w' ⟨r, rfl, rfl, hr0, hr1, hr⟩
  have HR := Lib.hid hr
  clear hr
  go_wp2
  go_ret
  exact ⟨ret_b HR.out.symm, rfl⟩
end Go.Proofs.Ytihaabdgligbbaa
