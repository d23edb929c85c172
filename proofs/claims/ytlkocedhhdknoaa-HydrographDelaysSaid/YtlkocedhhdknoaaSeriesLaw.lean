/- A delay, a sum, the greatest element as plain functions. No program in sight. -/
import Derived.Test.YtlkocedhhdknoaaConvLaw
namespace Go.Proofs.Ytlkocedhhdknoaa
set_option linter.unusedVariables false

def lagL (vs : List Int) (k : Nat) : List Int := fl k (fun _ => 0) ++ vs
/-- The list, and the error number. -/
def LagV (vs : List Int) (k : Int) : List Int × Int :=
  if seriesB vs = false then ([], 1) else if ¬ (0 ≤ k ∧ k ≤ 10000) then ([], 2) else if 10000 < k + vs.length then ([], 4) else (lagL vs k.toNat, 0)

theorem el_out {zs : List Int} {k : Nat} (h : zs.length ≤ k) : el zs k = 0 := by
  unfold el; rw [List.getD_eq_getElem?_getD, List.getElem?_eq_none h]; rfl
def addF (a b : List Int) (m : Nat) : Int := el a m + el b m
def addL (a b : List Int) : List Int := fl (max a.length b.length) (addF a b)
theorem addL_length (a b : List Int) : (addL a b).length = max a.length b.length := fl_length _ _
theorem addL_comm (a b : List Int) : addL a b = addL b a := by
  unfold addL
  rw [Nat.max_comm]
  exact fl_congr fun k _ => by unfold addF; omega
def addR (a b : List Int) : List Int × Int := if inB 1125899906842624 (addL a b) = false then ([], 5) else (addL a b, 0)
def AddV (a b : List Int) : List Int × Int := if seriesB a = false ∨ seriesB b = false then ([], 1) else addR a b
/-- When the first k of b have been added to a. -/
def adF (a b : List Int) (k m : Nat) : Int := el a m + (if m < k then el b m else 0)
theorem adF_zero (a b : List Int) (m : Nat) : adF a b 0 m = el a m := by unfold adF; rw [if_neg (by omega), Int.add_zero]
theorem adF_all (a b : List Int) (m : Nat) : adF a b b.length m = addF a b m := by
  unfold adF addF
  split
  · rfl
  · rw [el_out (zs := b) (by omega)]
theorem adF_step (a b : List Int) (k m : Nat) : (if m = k then adF a b k k + el b k else adF a b k m) = adF a b (k + 1) m := by
  unfold adF
  by_cases h : m = k
  · subst h; rw [if_pos rfl, if_neg (by omega), if_pos (by omega), Int.add_zero]
  · rw [if_neg h]
    by_cases h2 : m < k
    · rw [if_pos h2, if_pos (by omega)]
    · rw [if_neg h2, if_neg (by omega)]
theorem vol_bd {a : List Int} (h : seriesB a = true) (m : Nat) : 0 ≤ el a m ∧ el a m ≤ 1125899906842624 := by
  by_cases hm : m < a.length
  · exact inB_el (series_parts h).2 hm
  · rw [el_out (by omega)]; omega
theorem add_bad {a b : List Int} {m : Nat} (hm : m < max a.length b.length) (h : 1125899906842624 < addF a b m) : inB 1125899906842624 (addL a b) = false := by
  have : el (addL a b) m = addF a b m := el_fl _ hm
  exact in_high (by rw [addL_length]; exact hm) (by rw [this]; exact h)
theorem add_ok {a b : List Int} (ha : seriesB a = true) (hb : seriesB b = true) (h : ∀ m, m < max a.length b.length → ¬ 1125899906842624 < addF a b m) : inB 1125899906842624 (addL a b) = true := by
  apply in_all
  intro k hk
  rw [addL_length] at hk
  have : el (addL a b) k = addF a b k := el_fl _ hk
  have h1 := vol_bd ha k
  have h2 := vol_bd hb k
  have h3 := h k hk
  unfold badB
  rw [this]
  unfold addF at *
  rw [decide_eq_false (by omega), decide_eq_false (by omega)]; rfl

/-- The place of the first greatest among the elements 0 .. k. -/
def pkI (zs : List Int) : Nat → Nat
  | 0 => 0
  | k + 1 => if el zs (pkI zs k) < el zs (k + 1) then k + 1 else pkI zs k
theorem pkI_le (zs : List Int) (k : Nat) : pkI zs k ≤ k := by
  induction k with
  | zero => exact Nat.le_refl _
  | succ k ih => rw [pkI]; split <;> omega
theorem pkI_first (zs : List Int) (k : Nat) : ∀ j, j < pkI zs k → el zs j < el zs (pkI zs k) := by
  induction k with
  | zero => intro j hj; rw [pkI] at hj; omega
  | succ k ih =>
    intro j hj
    rw [pkI] at hj ⊢
    have hle := pkI_le zs k
    have hall : ∀ j, j ≤ k → el zs j ≤ el zs (pkI zs k) := by
      clear hj ih hle
      induction k with
      | zero => intro j hj; rw [show j = 0 by omega, pkI]; exact Int.le_refl _
      | succ k ih2 =>
        intro j hj
        rw [pkI]
        split
        · rename_i h
          by_cases hjk : j = k + 1
          · subst hjk; exact Int.le_refl _
          · have := ih2 j (by omega); omega
        · rename_i h
          by_cases hjk : j = k + 1
          · subst hjk; omega
          · exact ih2 j (by omega)
    split
    · rename_i h
      rw [if_pos h] at hj
      have := hall j (by omega)
      omega
    · rename_i h
      rw [if_neg h] at hj
      exact ih j hj
/-- The greatest, its place, the error number. -/
def PeakV (zs : List Int) : Int × Int × Int :=
  if seriesB zs = false then (0, 0, 1) else if zs.length = 0 then (0, 0, 14) else (el zs (pkI zs (zs.length - 1)), pkI zs (zs.length - 1), 0)
end Go.Proofs.Ytlkocedhhdknoaa
