/- Four bytes as a number, step by step. -/
import Derived.Test.YtchnfahgmceohaaDecLaw
import Derived.Laws.BitsLemmas
namespace Go.Proofs.Ytchnfahgmceohaa
open Go.RowKit
set_option linter.unusedVariables false

theorem or8 (a b : Nat) (h : a < 16777216) (hb : b < 256) : bits .or .u32 ((256 * a : Nat) : Int) (b : Int) = ((256 * a + b : Nat) : Int) := by
  rw [bits_join .u32 32 (by decide) (fun n h0 h1 => by rw [IntKind.wrap_u32]; omega) 8 _ _ (by omega) (by omega) (by omega) (by omega) (by omega) (by omega)]
  omega
def valTo (l : List Int) : Nat → Nat
  | 0 => 0
  | k + 1 => 256 * valTo l k + (el l k).toNat
theorem valTo_lt {l : List Int} (h : ∀ k, 0 ≤ el l k ∧ el l k ≤ 255) : ∀ k, valTo l k < 256 ^ k
  | 0 => by simp [valTo]
  | k + 1 => by
    have h1 := valTo_lt h k
    have h2 := h k
    rw [valTo, Nat.pow_succ]
    omega
theorem valTo_four {l : List Int} (h : ∀ k, 0 ≤ el l k ∧ el l k ≤ 255) : (valTo l 4 : Int) = val4 l := by
  have h0 := h 0
  have h1 := h 1
  have h2 := h 2
  have h3 := h 3
  show ((256 * (256 * (256 * (256 * 0 + (el l 0).toNat) + (el l 1).toNat) + (el l 2).toNat) + (el l 3).toNat : Nat) : Int) = ((el l 0 * 256 + el l 1) * 256 + el l 2) * 256 + el l 3
  omega
end Go.Proofs.Ytchnfahgmceohaa
