/- long: whether there are more than so many steps, but not too many. -/
import Derived.Test.YtfhikdgdckfalaaMB04
import Derived.Handy
namespace Go.Proofs.Ytfhikdgdckfalaa
open Go.RowKit
set_option linter.unusedVariables false

def longB (n : Nat) : Bool := decide (100 < n) && decide (n ≤ 10000) || decide (10100 < n)
theorem long_calls (n : Nat) (w : World) : Calls Try.prog 34 #[.int .i64 n, .int .i64 100] w fun e w' => e = .returned (.bool (longB n)) ∧ w = w' := by
  unfold longB
  by_cases h1 : 100 < (n : Int)
  · rw [decide_eq_true (show 100 < n by omega), Bool.true_and]
    by_cases h2 : (n : Int) ≤ 10000
    · rw [decide_eq_true (show n ≤ 10000 by omega), Bool.true_or]
      go_enter Try.func34, Try.ntmps34
      go_wp2
      go_ret
      exact ⟨rfl, rfl⟩
    · rw [decide_eq_false (show ¬ n ≤ 10000 by omega), Bool.false_or]
      go_enter Try.func34, Try.ntmps34
      go_wp2
      go_ret
      exact ⟨ret_b (by rw [Bool.eq_iff_iff]; simp; try omega), rfl⟩
  · rw [decide_eq_false (show ¬ 100 < n by omega), Bool.false_and, Bool.false_or]
    go_enter Try.func34, Try.ntmps34
    go_wp2
    go_ret
    exact ⟨ret_b (by rw [Bool.eq_iff_iff]; simp; try omega), rfl⟩
end Go.Proofs.Ytfhikdgdckfalaa
