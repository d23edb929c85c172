/- Sums of lists, and of their tails. -/
import Derived.Test.YtihaabdgligbbaaTab
import Derived.Test.YtihaabdgligbbaaShareLaw
import Derived.Handy
namespace Go.Proofs.Ytihaabdgligbbaa
open Go.RowKit
set_option linter.unusedVariables false

def Fits (zs : List Int) : Prop := ∀ k, k ≤ zs.length → -4611686018427387904 ≤ sumF (el zs) k ∧ sumF (el zs) k ≤ 4611686018427387904

set_option maxHeartbeats 1000000 in
theorem sum_ref {A : Option Addr} {n c : Nat} {zs : List Int} (w : World) (h : Ints w A n c zs) (hs : Fits zs) :
    Calls Try.prog 47 #[.slice A n c] w fun e w' => e = .returned (.int .i64 (sumL zs)) ∧ w = w' := by
  have HL := Lib.hid h.len
  have hcap := h.cap
  have hmax := h.max
  have HS := Lib.hid hs
  have H := Lib.hid h
  clear hs h
  go_enter Try.func47, Try.ntmps47
  go_wp2
  go_loop [3, 4] (fun s i => ∃ k : Nat, k ≤ n ∧ i = .int .i64 k ∧ s = .int .i64 (sumF (el zs) k)) (fun _ i => n - (intOf i).toNat)
  case atStart => exact ⟨0, Nat.zero_le _, rfl, rfl⟩
  case round =>
    obtain ⟨k, hk, rfl, rfl⟩ := hrel
    by_cases hlt : k < n
    · obtain ⟨ad, rfl, hl, hc⟩ := H.out.at_ hlt
      have b0 := HS.out k (by rw [HL.out]; exact hk)
      have b1 := HS.out (k + 1) (by rw [HL.out]; exact hlt)
      rw [sumF] at b1
      have HE : Hid (sumF (el zs) (k + 1) = sumF (el zs) k + el zs k) := Lib.hid rfl
      have hr := H.out.rngD k
      obtain ⟨b00, b01⟩ := b0
      obtain ⟨b10, b11⟩ := b1
      go_wp2
      go_round
      case rel => exact ⟨k + 1, by omega, by go_num, by rw [HE.out]⟩
      case measure => simp [intOf]; try omega
    · obtain rfl : k = n := by omega
      go_wp2
      go_ret
      exact ⟨ret_i (by unfold sumL; rw [HL.out]), rfl⟩

set_option maxHeartbeats 1000000 in
theorem sum_calls {A : Option Addr} {n c : Nat} {zs : List Int} (w : World) (h : Ints w A n c zs) (hs : Fits zs) :
    Calls Try.prog 43 #[.slice A n c] w fun e w' => e = .returned (.int .i64 (sumL zs)) ∧ w = w' := by
  have HL := Lib.hid h.len
  have hcap := h.cap
  have hmax := h.max
  have HS := Lib.hid hs
  have H := Lib.hid h
  clear hs h
  go_enter Try.func43, Try.ntmps43
  go_wp2
  go_loop [3, 8] (fun s i => ∃ k : Nat, k ≤ n ∧ i = .int .i64 k ∧ s = .int .i64 (sumF (el zs) k)) (fun _ i => n - (intOf i).toNat)
  case atStart => exact ⟨0, Nat.zero_le _, rfl, rfl⟩
  case round =>
    obtain ⟨k, hk, rfl, rfl⟩ := hrel
    by_cases hlt : k < n
    · obtain ⟨ad, rfl, hl, hc⟩ := H.out.at_ hlt
      have b0 := HS.out k (by rw [HL.out]; exact hk)
      have b1 := HS.out (k + 1) (by rw [HL.out]; exact hlt)
      rw [sumF] at b1
      have HE : Hid (sumF (el zs) (k + 1) = sumF (el zs) k + el zs k) := Lib.hid rfl
      have hr := H.out.rngD k
      obtain ⟨b00, b01⟩ := b0
      obtain ⟨b10, b11⟩ := b1
      go_wp2
      go_round
      case rel => exact ⟨k + 1, by omega, by go_num, by rw [HE.out]⟩
      case measure => simp [intOf]; try omega
    · obtain rfl : k = n := by omega
      go_wp2
      go_ret
      exact ⟨ret_i (by unfold sumL; rw [HL.out]), rfl⟩

theorem sumF_le {F : Nat → Int} {n k : Nat} (h : ∀ j, j < n → 0 ≤ F j) (hk : k ≤ n) : sumF F k ≤ sumF F n := by
  induction n with
  | zero => obtain rfl : k = 0 := by omega
            exact Int.le_refl _
  | succ n ih =>
    by_cases hkn : k = n + 1
    · subst hkn; exact Int.le_refl _
    · have h1 := ih (fun j hj => h j (by omega)) (by omega)
      have h2 := h n (by omega)
      rw [sumF]; omega
/-- Numbers from 0 to m, not more than 10000 of them, m at most 2^50. -/
theorem fits_of_in {m : Int} {zs : List Int} (h : inB m zs = true) (hn : zs.length ≤ 1000) (hm0 : 0 ≤ m) (hm : m ≤ 1125899906842624) : Fits zs := fun k hk => by
  have h1 := sumF_bd (F := el zs) (n := k) (m := m) (fun j hj => inB_el h (by omega))
  have h2 : (k : Int) * m ≤ 1000 * 1125899906842624 := Int.mul_le_mul (by omega) hm hm0 (by omega)
  omega
end Go.Proofs.Ytihaabdgligbbaa
