/- A number as bytes: groups of seven bits, the lowest first. No program in sight. -/
import Derived.Test.YtchnfahgmceohaaOwnB
namespace Go.Proofs.Ytchnfahgmceohaa
open Go.RowKit
set_option linter.unusedVariables false

def putGo : Nat → Nat → List Int
  | 0, n => [(n : Int)]
  | f + 1, n => if 128 ≤ n then ((n % 128 + 128 : Nat) : Int) :: putGo f (n / 128) else [(n : Int)]
def putL (n : Nat) : List Int := putGo 9 n
theorem putGo_fuel : ∀ f n, n < 128 ^ (f + 1) → putGo f n = putGo (f + 1) n
  | 0, n, h => by rw [putGo, putGo, if_neg (by omega)]
  | f + 1, n, h => by
    rw [putGo, putGo]
    by_cases h1 : 128 ≤ n
    · rw [if_pos h1, if_pos h1, putGo_fuel f (n / 128) (by rw [Nat.pow_succ] at h; exact Nat.div_lt_of_lt_mul (by omega))]
    · rw [if_neg h1, if_neg h1]
theorem putL_small {n : Nat} (h : n < 128) : putL n = [(n : Int)] := by unfold putL; rw [putGo, if_neg (by omega)]
theorem putL_big {n : Nat} (h : 128 ≤ n) (h2 : n < 9223372036854775808) : putL n = ((n % 128 + 128 : Nat) : Int) :: putL (n / 128) := by
  unfold putL
  rw [putGo, if_pos h, putGo_fuel 8 (n / 128) (by omega)]
theorem putGo_len : ∀ f n, 1 ≤ (putGo f n).length ∧ (putGo f n).length ≤ f + 1
  | 0, n => by simp [putGo]
  | f + 1, n => by
    rw [putGo]
    split
    · have := putGo_len f (n / 128); simp; omega
    · simp
theorem putL_len (n : Nat) : 1 ≤ (putL n).length ∧ (putL n).length ≤ 10 := putGo_len 9 n
theorem putGo_rng : ∀ f n, n < 128 ^ (f + 1) → ∀ z ∈ putGo f n, 0 ≤ z ∧ z ≤ 255
  | 0, n, h => by intro z hz; rw [putGo, List.mem_singleton] at hz; subst hz; omega
  | f + 1, n, h => by
    rw [putGo]
    split
    · intro z hz
      rcases List.mem_cons.1 hz with rfl | hz
      · omega
      · exact putGo_rng f (n / 128) (by rw [Nat.pow_succ] at h; exact Nat.div_lt_of_lt_mul (by omega)) z hz
    · intro z hz
      rw [List.mem_singleton] at hz; subst hz; omega
theorem putL_rng {n : Nat} (h : n < 9223372036854775808) : ∀ z ∈ putL n, 0 ≤ z ∧ z ≤ 255 := putGo_rng 9 n (by omega)

/-- An integer as a number. -/
def foldN (z : Int) : Nat := if z < 0 then (-2 * z - 1).toNat else (2 * z).toNat
theorem foldN_neg {z : Int} (h : z < 0) : (foldN z : Int) = -2 * z - 1 := by unfold foldN; rw [if_pos h]; omega
theorem foldN_pos {z : Int} (h : ¬ z < 0) : (foldN z : Int) = 2 * z := by unfold foldN; rw [if_neg h]; omega
end Go.Proofs.Ytchnfahgmceohaa
