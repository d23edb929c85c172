/- What the law on totals says of uniform and triangular storms. No program in sight. -/
import Derived.Test.YtfhikdgdckfalaaMB15
import Derived.Test.YtfhikdgdckfalaaSumM
namespace Go.Proofs.Ytfhikdgdckfalaa
open Go.RowKit
set_option linter.unusedVariables false

theorem div_two (A B S : Int) (hS : 0 < S) : B / S ≤ (A + B) / S - A / S ∧ (A + B) / S - A / S ≤ B / S + 1 := by
  have a1 := Int.ediv_mul_le A (Int.ne_of_gt hS)
  have b1 := Int.ediv_mul_le B (Int.ne_of_gt hS)
  have a2 := Int.lt_ediv_add_one_mul_self A hS
  have b2 := Int.lt_ediv_add_one_mul_self B hS
  have h1 : A / S + B / S ≤ (A + B) / S := Int.le_ediv_of_mul_le hS (by rw [Int.add_mul]; omega)
  have h2 : (A + B) / S < A / S + B / S + 2 := Int.ediv_lt_of_lt_mul hS (by
    have e1 : (A / S + 1) * S + (B / S + 1) * S = (A / S + B / S + 2) * S := by rw [← Int.add_mul]; congr 1; omega
    omega)
  omega
theorem shF_two {t : Int} {ws : List Int} (hS : 0 < sumL ws) (k : Nat) : t * el ws k / sumL ws ≤ shF t ws k ∧ shF t ws k ≤ t * el ws k / sumL ws + 1 := by
  unfold shF
  rw [sumF, Int.mul_add]
  exact div_two _ _ _ hS
theorem el_shL {t : Int} {ws : List Int} {k : Nat} (hk : k < ws.length) : el (shL t ws) k = shF t ws k := el_fl _ hk
theorem shF_up {t : Int} {ws : List Int} {i j : Nat} (ht : 0 ≤ t) (hS : 0 < sumL ws) (h : el ws i ≤ el ws j) : shF t ws i - 1 ≤ shF t ws j := by
  have h1 := (shF_two (t := t) hS i).2
  have h2 := (shF_two (t := t) hS j).1
  have h3 : t * el ws i / sumL ws ≤ t * el ws j / sumL ws := Int.ediv_le_ediv hS (Int.mul_le_mul_of_nonneg_left h ht)
  omega
theorem shL_nonneg {t : Int} {ws : List Int} (ok : ShareOk t ws) {z : Int} (hz : z ∈ shL t ws) : 0 ≤ z ∧ z ≤ t := by
  obtain ⟨k, hk, rfl⟩ := fl_mem hz
  exact shF_bd ok hk
theorem sumD_eq {zs : List Int} (h : ∀ z ∈ zs, 0 ≤ z) : sumD zs = sumL zs := by
  unfold sumD sumL
  refine sumF_congr fun k hk => ?_
  have := h _ (el_mem hk)
  unfold mx0; rw [if_neg (by omega)]
theorem valid_of {f st : Int} {n : Nat} {ds : List Int} (hs : stB f st n = true) (hl : ds.length = n) (hz : ∀ z ∈ ds, 0 ≤ z ∧ z ≤ 4194304) : validS f st ds = true := by
  have so := stB_iff.1 hs
  unfold validS
  rw [Bool.and_eq_true, hl]
  refine ⟨frameB_iff.2 ?_, ?_⟩
  · have h1 := so.f0; have h2 := so.f1; have h3 := so.s0; have h4 := so.s1; have h5 := so.n1; have h6 := so.e0; have h7 := so.e1
    constructor <;> first | omega | assumption
  · rw [Bool.not_eq_true', List.any_eq_false]
    intro z h
    have := hz z h
    unfold badD
    rw [decide_eq_false (by omega), decide_eq_false (by omega)]
    simp
theorem ones_len (n : Nat) : (onesL n).length = n := by unfold onesL; simp
theorem tri_len (n p : Nat) : (triL n p).length = n := fl_length _ _
theorem ones_spread {t : Int} {n : Nat} (ok : ShareOk t (onesL n)) (hn : 0 < n) : maxL (shL t (onesL n)) - minL (shL t (onesL n)) ≤ 1 ∧ 0 ≤ minL (shL t (onesL n)) := by
  have hl : (shL t (onesL n)).length = n := by rw [shL_length, ones_len]
  have hS : 0 < sumL (onesL n) := ok.s0
  unfold maxL minL
  rw [hl]
  obtain ⟨i, i1, i2⟩ := maxV_at (el (shL t (onesL n))) (n - 1)
  obtain ⟨j, j1, j2⟩ := minV_at (el (shL t (onesL n))) (n - 1)
  rw [i2, j2, el_shL (by rw [ones_len]; omega), el_shL (by rw [ones_len]; omega)]
  have h1 := (shF_two (t := t) hS i).2
  have h2 := (shF_two (t := t) hS j).1
  rw [el_ones (by omega)] at h1 h2
  have h3 := shF_bd ok (k := j) (by rw [ones_len]; omega)
  omega
theorem triF_up {n p i : Nat} (hp : p < n) (h : i + 1 ≤ p) : triF n p i ≤ triF n p (i + 1) := by
  unfold triF
  rw [if_pos (by omega), if_pos (by omega)]
  exact Int.mul_le_mul_of_nonneg_right (by omega) (by omega)
theorem triF_down {n p i : Nat} (hp : p < n) (h : p < i + 1) (hi : i + 1 < n) : triF n p (i + 1) ≤ triF n p i := by
  unfold triF
  rw [if_neg (c := i + 1 ≤ p) (by omega)]
  by_cases e : i ≤ p
  · have : i = p := by omega
    subst this
    rw [if_pos (Nat.le_refl _), Int.mul_comm]
    exact Int.mul_le_mul_of_nonneg_left (by omega) (by omega)
  · rw [if_neg e]
    exact Int.mul_le_mul_of_nonneg_right (by omega) (by omega)
theorem tri_steps {t : Int} {n p : Nat} (ok : ShareOk t (triL n p)) (hp : p < n) {i : Nat} (hi : i + 1 < n) :
    (i + 1 ≤ p → ¬ el (shL t (triL n p)) (i + 1) < el (shL t (triL n p)) i - 1) ∧ (p < i + 1 → ¬ el (shL t (triL n p)) i + 1 < el (shL t (triL n p)) (i + 1)) := by
  rw [el_shL (by rw [tri_len]; omega), el_shL (by rw [tri_len]; omega)]
  have ei : el (triL n p) i = triF n p i := el_fl _ (by omega)
  have ej : el (triL n p) (i + 1) = triF n p (i + 1) := el_fl _ hi
  refine ⟨fun h => ?_, fun h => ?_⟩
  · have := shF_up (t := t) (ws := triL n p) (i := i) (j := i + 1) ok.t0 ok.s0 (by rw [ei, ej]; exact triF_up hp h)
    omega
  · have := shF_up (t := t) (ws := triL n p) (i := i + 1) (j := i) ok.t0 ok.s0 (by rw [ei, ej]; exact triF_down hp h hi)
    omega
end Go.Proofs.Ytfhikdgdckfalaa
