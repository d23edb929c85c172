/- The sum of bytes: the program's, the reference's. -/
import Derived.Test.YtchnfahgmceohaaPut
namespace Go.Proofs.Ytchnfahgmceohaa
open Go.RowKit
set_option linter.unusedVariables false

def sumS (s x : Int) : Int := (31 * s + x + 1) % 4294967296
def sumTo (bs : List Int) : Nat → Int
  | 0 => 7
  | k + 1 => sumS (sumTo bs k) (el bs k)
def sumB (bs : List Int) : Int := sumTo bs bs.length
theorem sumTo_bd (bs : List Int) : ∀ k, 0 ≤ sumTo bs k ∧ sumTo bs k < 4294967296
  | 0 => by rw [sumTo]; omega
  | k + 1 => by rw [sumTo]; unfold sumS; omega

set_option maxHeartbeats 1000000 in
theorem sum_calls {A : Option Addr} {n c : Nat} {bs : List Int} (w : World) (h : Byts w A n c bs) :
    Calls Try.prog 46 #[.slice A n c] w fun e w' => e = .returned (.int .u32 (sumB bs)) ∧ w = w' := by
  have HL := Lib.hid h.len
  have hcap := h.cap
  have hmax := h.max
  have H := Lib.hid h
  clear h
  go_enter Try.func46, Try.ntmps46
  go_wp2
  go_loop [3, 8] (fun s i => ∃ k : Nat, k ≤ n ∧ i = .int .i64 k ∧ s = .int .u32 (sumTo bs k)) (fun _ i => n - (intOf i).toNat)
  case atStart => exact ⟨0, Nat.zero_le _, rfl, rfl⟩
  case round =>
    obtain ⟨k, hk, rfl, rfl⟩ := hrel
    by_cases hlt : k < n
    · obtain ⟨ad, rfl, hl, hc⟩ := H.out.at_ hlt
      obtain ⟨b0, b1⟩ := sumTo_bd bs k
      obtain ⟨r0, r1⟩ := H.out.rngD k
      have HE : Hid (sumTo bs (k + 1) = sumS (sumTo bs k) (el bs k)) := Lib.hid rfl
      generalize sumTo bs k = s at *
      generalize el bs k = x at *
      obtain ⟨M, hM⟩ : ∃ M, IntKind.u32.wrap (31 * s) = M := ⟨_, rfl⟩
      obtain ⟨L, hL⟩ : ∃ L, IntKind.u32.wrap (M + x) = L := ⟨_, rfl⟩
      have hw : IntKind.u32.wrap x = x := IntWalk.u32_in _ (by omega)
      obtain ⟨K, hK⟩ : ∃ K, IntKind.u32.wrap (L + 1) = K := ⟨_, rfl⟩
      have HS : Hid (K = sumS s x) := Lib.hid (by unfold sumS; rw [← hK, ← hL, ← hM]; simp only [IntKind.wrap_u32]; omega)
      go_wp2
      go_round
      case rel => exact ⟨k + 1, by omega, by go_num, by rw [HE.out, ← HS.out]⟩
      case measure => simp [intOf]; try omega
    · obtain rfl : k = n := by omega
      go_wp2
      go_ret
      exact ⟨ret_i (by unfold sumB; rw [HL.out]), rfl⟩

set_option maxHeartbeats 1000000 in
theorem Sum_ref {A : Option Addr} {n c : Nat} {bs : List Int} (w : World) (h : Byts w A n c bs) :
    Calls Try.prog 62 #[.slice A n c] w fun e w' => e = .returned (.int .i64 (sumB bs)) ∧ w = w' := by
  have HL := Lib.hid h.len
  have hcap := h.cap
  have hmax := h.max
  have H := Lib.hid h
  clear h
  go_enter Try.func62, Try.ntmps62
  go_wp2
  go_loop [3, 4] (fun s i => ∃ k : Nat, k ≤ n ∧ i = .int .i64 k ∧ s = .int .i64 (sumTo bs k)) (fun _ i => n - (intOf i).toNat)
  case atStart => exact ⟨0, Nat.zero_le _, rfl, rfl⟩
  case round =>
    obtain ⟨k, hk, rfl, rfl⟩ := hrel
    by_cases hlt : k < n
    · obtain ⟨ad, rfl, hl, hc⟩ := H.out.at_ hlt
      obtain ⟨b0, b1⟩ := sumTo_bd bs k
      obtain ⟨r0, r1⟩ := H.out.rngD k
      have HE : Hid (sumTo bs (k + 1) = sumS (sumTo bs k) (el bs k)) := Lib.hid rfl
      generalize sumTo bs k = s at *
      generalize el bs k = x at *
      go_wp2
      go_round
      case rel => exact ⟨k + 1, by omega, by go_num, by rw [HE.out]; unfold sumS; rfl⟩
      case measure => simp [intOf]; try omega
    · obtain rfl : k = n := by omega
      go_wp2
      go_ret
      exact ⟨ret_i (by unfold sumB; rw [HL.out]), rfl⟩
end Go.Proofs.Ytchnfahgmceohaa
