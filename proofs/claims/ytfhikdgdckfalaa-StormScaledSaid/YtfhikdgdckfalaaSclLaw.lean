/- What the law on scaling says of scaled, moved and joined records. No program in sight. -/
import Derived.Test.YtfhikdgdckfalaaScLaw
import Derived.Test.YtfhikdgdckfalaaShift
import Derived.Test.YtfhikdgdckfalaaJoin
namespace Go.Proofs.Ytfhikdgdckfalaa
open Go.RowKit
set_option linter.unusedVariables false

section
variable {f st : Int} {ds : List Int} {num den : Int}
def scL (ds : List Int) (num den : Int) : List Int := fl ds.length (scF ds num den)
theorem scL_len : (scL ds num den).length = ds.length := fl_length _ _
theorem el_scL {k : Nat} (hk : k < ds.length) : el (scL ds num den) k = scF ds num den k := el_fl _ hk
theorem scF_neg {k : Nat} (hz : ∀ z ∈ ds, -1 ≤ z ∧ z ≤ 4194304) (h0 : 0 ≤ num) (h2 : 1 ≤ den) (hk : k < ds.length) : scF ds num den k < 0 ↔ el ds k < 0 := by
  have := sc_mono (num := num) hz h0 h2 hk
  unfold scF
  split <;> constructor <;> omega
theorem mx0_scL {k : Nat} (hz : ∀ z ∈ ds, -1 ≤ z ∧ z ≤ 4194304) (h0 : 0 ≤ num) (h2 : 1 ≤ den) (hk : k < ds.length) : mx0 (scL ds num den) k = scS ds num den (k + 1) - scS ds num den k := by
  unfold mx0
  rw [el_scL hk]
  by_cases h : el ds k < 0
  · rw [if_pos ((scF_neg hz h0 h2 hk).2 h), scS_neg h]; omega
  · rw [if_neg (fun h3 => h ((scF_neg hz h0 h2 hk).1 h3))]; unfold scF; rw [if_neg h]
theorem sum_scL (hz : ∀ z ∈ ds, -1 ≤ z ∧ z ≤ 4194304) (h0 : 0 ≤ num) (h2 : 1 ≤ den) : ∀ {k : Nat}, k ≤ ds.length → sumF (mx0 (scL ds num den)) k = scS ds num den k
  | 0, _ => (scS_zero _ _ _).symm
  | k + 1, hk => by
    rw [sumF, sum_scL hz h0 h2 (k := k) (by omega), mx0_scL hz h0 h2 (by omega)]; omega
theorem scL_range (hz : ∀ z ∈ ds, -1 ≤ z ∧ z ≤ 4194304) (h0 : 0 ≤ num) (h2 : 1 ≤ den) (hb : scBad ds num den = false) : ∀ z ∈ scL ds num den, -1 ≤ z ∧ z ≤ 4194304 := by
  intro z h
  obtain ⟨k, hk, rfl⟩ := fl_mem h
  have h1 := scBad_false hb hk
  have h3 := sc_mono (num := num) hz h0 h2 hk
  have h4 := hz _ (el_mem hk)
  refine ⟨?_, by omega⟩
  unfold scF; split <;> omega
theorem valid_mk {L : List Int} (hf : FrameOk f st L.length) (h : ∀ z ∈ L, -1 ≤ z ∧ z ≤ 4194304) : validS f st L = true := by
  unfold validS
  rw [Bool.and_eq_true, Bool.not_eq_true', List.any_eq_false]
  refine ⟨frameB_iff.2 hf, fun z hz => ?_⟩
  have := h z hz
  unfold badD
  rw [decide_eq_false (by omega), decide_eq_false (by omega)]
  simp
theorem scL_valid (hv : validS f st ds = true) (h0 : 0 ≤ num) (h2 : 1 ≤ den) (hb : scBad ds num den = false) : validS f st (scL ds num den) = true := by
  obtain ⟨fo, hz⟩ := validS_parts hv
  exact valid_mk (by rw [scL_len]; exact fo) (scL_range hz h0 h2 hb)
theorem scaleV_ok (hv : validS f st ds = true) (h0 : 1 ≤ num) (h1 : num ≤ 1000) (h2 : 1 ≤ den) (h3 : den ≤ 1000) : scaleV ⟨f, st, ds⟩ num den = if scBad ds num den = true then (zeroS, 5) else (⟨f, st, scL ds num den⟩, 0) := by
  unfold scaleV
  dsimp only
  rw [if_neg (by rw [hv]; simp), if_neg (by omega)]
  rfl
theorem scS_one (num : Int) (k : Nat) : scS ds num 1 k = sumF (mx0 ds) k * num := by unfold scS; rw [Int.ediv_one]
/-- Scaled by a whole number, and back. -/
theorem scale_back (hv : validS f st ds = true) (h0 : 1 ≤ num) (h1 : num ≤ 1000) (hb : scBad ds num 1 = false) : scaleV ⟨f, st, scL ds num 1⟩ 1 num = (⟨f, st, ds⟩, 0) := by
  obtain ⟨fo, hz⟩ := validS_parts hv
  have hv2 := scL_valid (den := 1) hv (by omega : 0 ≤ num) (by omega) hb
  have e1 : ∀ k, k ≤ ds.length → scS (scL ds num 1) 1 num k = sumF (mx0 ds) k := fun k hk => by
    unfold scS
    rw [sum_scL hz (by omega) (by omega) hk, scS_one, Int.mul_one]
    exact Int.mul_ediv_cancel _ (by omega)
  have e2 : ∀ k, k < ds.length → scF (scL ds num 1) 1 num k = el ds k := fun k hk => by
    have h3 := scF_neg (num := num) (den := 1) hz (by omega) (by omega) hk
    have h4 : scF (scL ds num 1) 1 num k = if scF ds num 1 k < 0 then scF ds num 1 k else scS (scL ds num 1) 1 num (k + 1) - scS (scL ds num 1) 1 num k := by
      rw [show scF (scL ds num 1) 1 num k = if el (scL ds num 1) k < 0 then el (scL ds num 1) k else scS (scL ds num 1) 1 num (k + 1) - scS (scL ds num 1) 1 num k from rfl, el_scL hk]
    rw [h4]
    by_cases h : el ds k < 0
    · rw [if_pos (h3.2 h)]; unfold scF; rw [if_pos h]
    · rw [if_neg (fun h5 => h (h3.1 h5)), e1 _ (by omega), e1 _ (by omega), sumF]
      unfold mx0; rw [if_neg h]; omega
  have hnb : scBad (scL ds num 1) 1 num = false := scBad_no fun k hk => by
    rw [scL_len] at hk
    rw [e2 k hk]
    have := hz _ (el_mem hk)
    omega
  rw [scaleV_ok hv2 (by omega) (by omega) h0 h1, hnb, if_neg (by simp)]
  congr 2
  unfold scL
  rw [fl_length]
  have : fl ds.length (scF (fl ds.length (scF ds num 1)) 1 num) = fl ds.length (el ds) := fl_congr fun k hk => e2 k hk
  rw [this, fl_el]
/-- Moved, and back. -/
theorem shift_two (b : Int) : shiftV f st ds b = (zeroS, 1) ∧ validS f st ds = false ∨ shiftV f st ds b = (zeroS, 2) ∨ (shiftV f st ds b = (⟨f + b, st, ds⟩, 0) ∧ validS (f + b) st ds = true ∧ -137438953472 ≤ b ∧ b ≤ 137438953472) := by
  unfold shiftV
  cases h1 : validS f st ds
  · left; rw [if_pos rfl]; exact ⟨rfl, rfl⟩
  · right
    rw [if_neg (by simp)]
    by_cases h2 : b < -137438953472 ∨ 137438953472 < b
    · rw [if_pos h2]; exact .inl rfl
    · rw [if_neg h2]
      cases h3 : validS (f + b) st ds
      · rw [if_pos rfl]; exact .inl rfl
      · rw [if_neg (by simp)]; exact .inr ⟨rfl, rfl, by omega, by omega⟩
theorem shift_back {b : Int} (hv : validS f st ds = true) (h : validS (f + b) st ds = true) (h1 : -137438953472 ≤ b) (h2 : b ≤ 137438953472) : shiftV (f + b) st ds (-b) = (⟨f, st, ds⟩, 0) := by
  unfold shiftV
  rw [if_neg (by rw [h]; simp), if_neg (by omega), show f + b + -b = f by omega, if_neg (by rw [hv]; simp)]
/-- Joined to what follows it. -/
theorem join_next {ds' : List Int} (hv : validS f st ds = true) (hl : ds.length + ds'.length ≤ 10000) : joinV ⟨f, st, ds⟩ ⟨f + st * ds.length, st, ds'⟩ = if validS (f + st * ds.length) st ds' = false then (zeroS, 1) else (⟨f, st, ds ++ ds'⟩, 0) := by
  unfold joinV
  dsimp only
  by_cases h : validS (f + st * ds.length) st ds' = false
  · rw [if_pos (.inr h), if_pos h]
  · rw [if_neg (by intro h2; rcases h2 with h2 | h2; rw [hv] at h2; cases h2; exact h h2), if_neg (by intro h2; rcases h2 with h2 | h2; exact h2 rfl; exact h2 rfl), if_neg (by omega), if_neg h]
end
end Go.Proofs.Ytfhikdgdckfalaa
