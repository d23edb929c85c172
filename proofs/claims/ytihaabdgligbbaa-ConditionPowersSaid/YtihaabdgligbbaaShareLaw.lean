/- The shares of a total by weights, as a plain function; their sum. No program in sight. -/
import Derived.Test.YtihaabdgligbbaaValid
namespace Go.Proofs.Ytihaabdgligbbaa
set_option linter.unusedVariables false

def shF (t : Int) (ws : List Int) (k : Nat) : Int := t * sumF (el ws) (k + 1) / sumL ws - t * sumF (el ws) k / sumL ws
def shL (t : Int) (ws : List Int) : List Int := fl ws.length (shF t ws)
def ShareE (t : Int) (ws : List Int) : Int :=
  if 10000 < ws.length then 4 else if ¬ (0 ≤ t ∧ t ≤ 1125899906842624) then 2 else if inB 1125899906842624 ws = false then 2 else if 1152921504606846976 < sumL ws then 5 else if sumL ws = 0 then 16 else 0
/-- The list, and the error number. -/
def ShareV (t : Int) (ws : List Int) : List Int × Int := if ShareE t ws = 0 then (shL t ws, 0) else ([], ShareE t ws)
/-- Right arguments. -/
structure ShareOk (t : Int) (ws : List Int) : Prop where
  len : ws.length ≤ 10000
  t0 : 0 ≤ t
  t1 : t ≤ 1125899906842624
  ok : inB 1125899906842624 ws = true
  s0 : 0 < sumL ws
  s1 : sumL ws ≤ 1152921504606846976
theorem sum_nonneg {ws : List Int} {m : Int} (h : inB m ws = true) : 0 ≤ sumL ws := sumF_nonneg fun k hk => (inB_el h hk).1
theorem part_bd {ws : List Int} {m : Int} (h : inB m ws = true) {k : Nat} (hk : k ≤ ws.length) : 0 ≤ sumF (el ws) k ∧ sumF (el ws) k ≤ sumL ws := by
  refine ⟨sumF_nonneg fun j hj => (inB_el h (by omega)).1, ?_⟩
  unfold sumL
  generalize ws.length = n at *
  have : ∀ j, 0 ≤ el ws j := fun j => by
    by_cases hj : j < ws.length
    · exact (inB_el h hj).1
    · unfold el; rw [List.getD_eq_getElem?_getD, List.getElem?_eq_none (by omega)]; exact Int.le_refl _
  exact sumF_mono this hk
theorem shareE_ok {t : Int} {ws : List Int} : ShareE t ws = 0 ↔ ShareOk t ws := by
  unfold ShareE
  constructor
  · intro h
    split at h
    · simp at h
    · split at h
      · simp at h
      · split at h
        · simp at h
        · split at h
          · simp at h
          · split at h
            · simp at h
            · rename_i a b c d e
              have hc : inB 1125899906842624 ws = true := by simpa using c
              have := sum_nonneg hc
              exact ⟨by omega, by omega, by omega, hc, by omega, by omega⟩
  · intro h
    rw [if_neg (by have := h.len; omega), if_neg (not_not_intro ⟨h.t0, h.t1⟩), if_neg (by rw [h.ok]; decide), if_neg (by have := h.s1; omega), if_neg (by have := h.s0; omega)]
theorem shareV_ok {t : Int} {ws : List Int} (h : ShareOk t ws) : ShareV t ws = (shL t ws, 0) := by unfold ShareV; rw [if_pos (shareE_ok.2 h)]
theorem shareV_no {t : Int} {ws : List Int} (h : ¬ ShareOk t ws) : ShareV t ws = ([], ShareE t ws) := by unfold ShareV; rw [if_neg (fun e => h (shareE_ok.1 e))]
theorem shL_length (t : Int) (ws : List Int) : (shL t ws).length = ws.length := fl_length _ _

section
variable {t : Int} {ws : List Int} (h : ShareOk t ws)
include h
theorem qk_bd {k : Nat} (hk : k ≤ ws.length) : 0 ≤ t * sumF (el ws) k / sumL ws ∧ t * sumF (el ws) k / sumL ws ≤ t := by
  have hp := part_bd h.ok hk
  refine ⟨Int.ediv_nonneg (Int.mul_nonneg h.t0 hp.1) (by have := h.s0; omega), ?_⟩
  have h1 : t * sumF (el ws) k ≤ t * sumL ws := Int.mul_le_mul_of_nonneg_left hp.2 h.t0
  have h2 := Int.ediv_le_ediv h.s0 h1
  rwa [Int.mul_ediv_cancel _ (by have := h.s0; omega)] at h2
theorem qk_mono {k : Nat} (hk : k < ws.length) : t * sumF (el ws) k / sumL ws ≤ t * sumF (el ws) (k + 1) / sumL ws := by
  apply Int.ediv_le_ediv h.s0
  apply Int.mul_le_mul_of_nonneg_left _ h.t0
  have := (inB_el h.ok hk).1
  rw [sumF]; omega
theorem shF_bd {k : Nat} (hk : k < ws.length) : 0 ≤ shF t ws k ∧ shF t ws k ≤ t := by
  have h1 := qk_bd h (show k + 1 ≤ ws.length by omega)
  have h2 := qk_bd h (show k ≤ ws.length by omega)
  have h3 := qk_mono h hk
  unfold shF; omega
omit h in
theorem shF_sum (k : Nat) : sumF (shF t ws) k = t * sumF (el ws) k / sumL ws := by
  induction k with
  | zero => simp [sumF]
  | succ k ih => rw [sumF, ih]; unfold shF; omega
theorem sum_share : sumL (shL t ws) = t := by
  unfold sumL
  rw [shL_length, show sumF (el (shL t ws)) ws.length = sumF (shF t ws) ws.length from sumF_congr (fun k hk => el_fl _ hk), shF_sum]
  exact Int.mul_ediv_cancel _ (Int.ne_of_gt h.s0)
end

/-- The quotient in 128 bits. -/
theorem quo128 (T F S : Nat) : (T * F / 18446744073709551616 * 18446744073709551616 + T * F % 18446744073709551616) / S = T * F / S := by
  congr 1; omega
theorem quo128_hi {T F S : Nat} (hT : T ≤ 1125899906842624) (hF : F ≤ S) (hS : 0 < S) : T * F / 18446744073709551616 < S := by
  rw [Nat.div_lt_iff_lt_mul (by omega)]
  have h1 : T * F ≤ 1125899906842624 * S := Nat.mul_le_mul hT hF
  omega
end Go.Proofs.Ytihaabdgligbbaa
