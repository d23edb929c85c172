/- Pack of the program; looking through a list with the closure of ArchiveSmall. -/
import Derived.Test.YtchnfahgmceohaaPack
import Derived.Test.YtchnfahgmceohaaSmallLaw
import Derived.Test.YtchnfahgmceohaaFindG
import Derived.Test.YtchnfahgmceohaaEnc
namespace Go.Proofs.Ytchnfahgmceohaa
open Go.RowKit
set_option linter.unusedVariables false

set_option maxRecDepth 100000 in
set_option maxHeartbeats 2000000 in
theorem Pack_calls {A : Option Addr} {n c : Nat} {l : List Int} (w : World) (h : Ints w A n c l) (hp : inP l) (hn : (n : Int) ≤ 10000) :
    Calls Try.prog 21 #[.slice A n c] w (RetZ (packL l) 0 w) := by
  have hcap := h.cap
  have hmax := h.max
  have pc := pack_calls w h hp hn
  have PC := Lib.hid pc
  have H := Lib.hid h
  have HP := Lib.hid (inP_el hp)
  clear h pc hp
  go_enter Try.func21, Try.ntmps21
  go_wp2
  go_loop [11] (fun i => ∃ k : Nat, k ≤ n ∧ i = .int .i64 k) (fun i => n - (intOf i).toNat)
  case atStart => exact ⟨0, Nat.zero_le _, rfl⟩
  case round =>
    obtain ⟨k, hk, rfl⟩ := hrel
    by_cases hlt : k < n
    · obtain ⟨ad, rfl, hl, hc⟩ := H.out.at_ hlt
      obtain ⟨p0, p1⟩ := HP.out k
      generalize el l k = z at *
      have p2 : ¬ z < -1099511627776 := by omega
      have p3 : ¬ 1099511627776 < z := by omega
      clear p0 p1
      go_wp2
      go_round
      case rel => exact ⟨k + 1, by omega, by go_num⟩
      case measure => simp [intOf]; try omega
    · obtain rfl : k = n := by omega
      clear hlt
      go_wp2_with fail
      refine (PC.out).mono ?_
      rintro e w1 ⟨v, rfl, o1, b1⟩
      have O1 := Lib.hid o1
      have B1 := Lib.hid b1
      clear o1 b1
      go_wp2
      go_returns
      exact ⟨_, rfl, O1.out, B1.out⟩

theorem small1_calls (z : Int) (w : World) :
    Calls Try.prog 20 #[.int .i64 z] w fun e w' => e = .returned (.bool (bigP z)) ∧ w = w' := by
  unfold bigP
  by_cases h : z < -1099511627776
  · rw [decide_eq_true h, Bool.true_or]
    go_enter Try.func20, Try.ntmps20
    go_wp2
    go_ret
    exact ⟨rfl, rfl⟩
  · rw [decide_eq_false h, Bool.false_or]
    go_enter Try.func20, Try.ntmps20
    go_wp2
    go_ret
    exact ⟨rfl, rfl⟩

set_option maxHeartbeats 1000000 in
theorem indexFunc_big {A : Option Addr} {n c : Nat} {zs : List Int} (w : World) (h : Ints w A n c zs) :
    Calls Try.prog 48 #[.slice A n c, .func (.func 20) #[] #[]] w (Found bigP zs w) := by
  have hcap := h.cap
  have hmax := h.max
  have hfew := h.few
  have HL := Lib.hid h.len
  have H := Lib.hid h
  have hcl := fun z => small1_calls z w
  have HC := Lib.hid hcl
  clear h hcl
  go_enter Try.func48, Try.ntmps48
  go_wp2
  go_loop [8] (fun i => ∃ k : Nat, k ≤ n ∧ i = .int .i64 k ∧ ∀ j, j < k → bigP (el zs j) = false) (fun i => n - (intOf i).toNat)
  case atStart => exact ⟨0, Nat.zero_le _, rfl, fun j hj => absurd hj (by omega)⟩
  case round =>
    obtain ⟨k, hk, rfl, hno⟩ := hrel
    have HN := Lib.hid hno
    clear hno
    by_cases hlt : k < n
    · obtain ⟨ad, rfl, hl, hc⟩ := H.out.at_ hlt
      cases hbad : bigP (el zs k)
      · have HB := Lib.hid hbad
        have hcl := HC.out (el zs k)
        rw [hbad] at hcl
        have HCL := Lib.hid hcl
        clear hbad hcl
        go_wp2_with fail
        refine (HCL.out).mono ?_
        rintro e w' ⟨rfl, rfl⟩
        go_wp2
        go_round
        case rel => exact ⟨k + 1, by omega, by go_num, fun j hj => by
          by_cases hjk : j = k
          · subst hjk; exact HB.out
          · exact HN.out j (by omega)⟩
        case measure => simp [intOf]; try omega
      · have HB := Lib.hid hbad
        have hcl := HC.out (el zs k)
        rw [hbad] at hcl
        have HCL := Lib.hid hcl
        clear hbad hcl
        go_wp2_with fail
        refine (HCL.out).mono ?_
        rintro e w' ⟨rfl, rfl⟩
        go_wp2
        go_ret
        exact ⟨k, rfl, rfl, by omega, by omega, by rw [any_at (by rw [HL.out]; exact hlt) HB.out, decide_eq_true (by omega)]⟩
    · go_wp2
      go_ret
      exact ⟨-1, rfl, rfl, by omega, by omega, by rw [any_take (fun j hj => HN.out j (by rw [HL.out] at hj; omega))]; rfl⟩
theorem containsFunc_big {A : Option Addr} {n c : Nat} {zs : List Int} (w : World) (h : Ints w A n c zs) :
    Calls Try.prog 19 #[.slice A n c, .func (.func 20) #[] #[]] w fun e w' => e = .returned (.bool (zs.any bigP)) ∧ w = w' := by
  have HI := Lib.hid (indexFunc_big w h)
  clear h
  go_enter Try.func19, Try.ntmps19
  go_wp2_with fail
  refine (HI.out).mono ?_
  rintro e w' ⟨r, rfl, rfl, hr0, hr1, hr⟩
  have HR := Lib.hid hr
  clear hr
  go_wp2
  go_ret
  exact ⟨ret_b HR.out.symm, rfl⟩
end Go.Proofs.Ytchnfahgmceohaa
