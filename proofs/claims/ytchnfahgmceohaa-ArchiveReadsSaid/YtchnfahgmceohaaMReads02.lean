/- A number as bytes: groups of seven bits, the lowest first. No program in sight. -/
import Derived.Test.YtchnfahgmceohaaMReads01

namespace Go.Proofs.Ytchnfahgmceohaa
open Go.RowKit
set_option linter.unusedVariables false

def putGo : Nat → Nat → List Int
  | 0, n => [(n : Int)]
  | f + 1, n => if 128 ≤ n then ((n % 128 + 128 : Nat) : Int) :: putGo f (n / 128) else [(n : Int)]
def putL (n : Nat) : List Int := putGo 9 n
theorem putGo_fuel : ∀ f n, n < 128 ^ (f + 1) → putGo f n = putGo (f + 1) n
  | 0, n, h => by rw [putGo, putGo, if_neg (by omega)]
  | f + 1, n, h => by
    rw [putGo, putGo]
    by_cases h1 : 128 ≤ n
    · rw [if_pos h1, if_pos h1, putGo_fuel f (n / 128) (by rw [Nat.pow_succ] at h; exact Nat.div_lt_of_lt_mul (by omega))]
    · rw [if_neg h1, if_neg h1]
theorem putL_small {n : Nat} (h : n < 128) : putL n = [(n : Int)] := by unfold putL; rw [putGo, if_neg (by omega)]
theorem putL_big {n : Nat} (h : 128 ≤ n) (h2 : n < 9223372036854775808) : putL n = ((n % 128 + 128 : Nat) : Int) :: putL (n / 128) := by
  unfold putL
  rw [putGo, if_pos h, putGo_fuel 8 (n / 128) (by omega)]
theorem putGo_len : ∀ f n, 1 ≤ (putGo f n).length ∧ (putGo f n).length ≤ f + 1
  | 0, n => by simp [putGo]
  | f + 1, n => by
    rw [putGo]
    split
    · have := putGo_len f (n / 128); simp; omega
    · simp
theorem putL_len (n : Nat) : 1 ≤ (putL n).length ∧ (putL n).length ≤ 10 := putGo_len 9 n
theorem putGo_rng : ∀ f n, n < 128 ^ (f + 1) → ∀ z ∈ putGo f n, 0 ≤ z ∧ z ≤ 255
  | 0, n, h => by intro z hz; rw [putGo, List.mem_singleton] at hz; subst hz; omega
  | f + 1, n, h => by
    rw [putGo]
    split
    · intro z hz
      rcases List.mem_cons.1 hz with rfl | hz
      · omega
      · exact putGo_rng f (n / 128) (by rw [Nat.pow_succ] at h; exact Nat.div_lt_of_lt_mul (by omega)) z hz
    · intro z hz
      rw [List.mem_singleton] at hz; subst hz; omega
theorem putL_rng {n : Nat} (h : n < 9223372036854775808) : ∀ z ∈ putL n, 0 ≤ z ∧ z ≤ 255 := putGo_rng 9 n (by omega)

/-- An integer as a number. -/
def foldN (z : Int) : Nat := if z < 0 then (-2 * z - 1).toNat else (2 * z).toNat
theorem foldN_neg {z : Int} (h : z < 0) : (foldN z : Int) = -2 * z - 1 := by unfold foldN; rw [if_pos h]; omega
theorem foldN_pos {z : Int} (h : ¬ z < 0) : (foldN z : Int) = 2 * z := by unfold foldN; rw [if_neg h]; omega
end Go.Proofs.Ytchnfahgmceohaa

/- Packed integers as a plain function. No program in sight. -/
namespace Go.Proofs.Ytchnfahgmceohaa
open Go.RowKit
set_option linter.unusedVariables false

/-- The bytes of a run of equal integers. -/
def runL (run : Nat) : List Int := if 0 < run then putL (2 * run) else []
def packGo (last : Int) (run : Nat) : List Int → List Int
  | [] => runL run
  | z :: r => if z = last then packGo last (run + 1) r else runL run ++ (putL (2 * foldN (z - last) + 1) ++ packGo z 0 r)
def packL (l : List Int) : List Int := packGo 0 0 l
theorem runL_len (run : Nat) : (runL run).length ≤ 10 := by
  unfold runL; split
  · exact (putL_len _).2
  · simp
theorem drop_el {l : List Int} {k : Nat} (h : k < l.length) : l.drop k = el l k :: l.drop (k + 1) := by
  rw [List.drop_eq_getElem_cons h]
  congr 1
  unfold el; rw [List.getD_eq_getElem?_getD, List.getElem?_eq_getElem h]; rfl
theorem pack_same {l : List Int} {k : Nat} {run : Nat} (h : k < l.length) : packGo (el l k) run (l.drop k) = packGo (el l k) (run + 1) (l.drop (k + 1)) := by
  rw [drop_el h, packGo, if_pos rfl]
theorem pack_other {l : List Int} {k : Nat} {last : Int} {run : Nat} (h : k < l.length) (hne : ¬ el l k = last) : packGo last run (l.drop k) = runL run ++ (putL (2 * foldN (el l k - last) + 1) ++ packGo (el l k) 0 (l.drop (k + 1))) := by
  rw [drop_el h, packGo, if_neg hne]
theorem packGo_len (l : List Int) : ∀ last run, (packGo last run l).length ≤ 20 * l.length + 10 := by
  induction l with
  | nil => intro last run; rw [packGo]; have := runL_len run; simp; omega
  | cons z r ih =>
    intro last run
    rw [packGo]
    split
    · have := ih last (run + 1); simp; omega
    · have h1 := ih z 0
      have h2 := runL_len run
      have h3 := putL_len (2 * foldN (z - last) + 1)
      simp; omega
/-- Integers of at most 2^40. -/
def inP (l : List Int) : Prop := ∀ z ∈ l, -1099511627776 ≤ z ∧ z ≤ 1099511627776
theorem inP_el {l : List Int} (h : inP l) (k : Nat) : -1099511627776 ≤ el l k ∧ el l k ≤ 1099511627776 := by
  by_cases hk : k < l.length
  · exact h _ (el_mem hk)
  · unfold el; rw [List.getD_eq_getElem?_getD, List.getElem?_eq_none (by omega)]; simp
theorem foldN_le {z : Int} (h0 : -4398046511104 ≤ z) (h1 : z ≤ 4398046511104) : foldN z ≤ 8796093022208 := by unfold foldN; split <;> omega
end Go.Proofs.Ytchnfahgmceohaa
