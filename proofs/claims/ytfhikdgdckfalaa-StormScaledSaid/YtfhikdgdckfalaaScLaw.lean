/- Scaled records, as a plain function. No program in sight. -/
import Derived.Test.YtfhikdgdckfalaaSumM
import Derived.Test.YtfhikdgdckfalaaMB02
namespace Go.Proofs.Ytfhikdgdckfalaa
open Go.RowKit
set_option linter.unusedVariables false

/-- The sum of the first k depths, changed by the factor. -/
def scS (ds : List Int) (num den : Int) (k : Nat) : Int := sumF (mx0 ds) k * num / den
def scF (ds : List Int) (num den : Int) (k : Nat) : Int := if el ds k < 0 then el ds k else scS ds num den (k + 1) - scS ds num den k
def scBad (ds : List Int) (num den : Int) : Bool := (List.range ds.length).any fun k => decide (4194304 < scF ds num den k)
def scaleV (s : SerD) (num den : Int) : SerD × Int :=
  if validS s.f s.st s.ds = false then (zeroS, 1)
  else if num < 0 ∨ 1000000 < num ∨ den < 1 ∨ 1000000 < den then (zeroS, 2)
  else if scBad s.ds num den = true then (zeroS, 5)
  else (⟨s.f, s.st, fl s.ds.length (scF s.ds num den)⟩, 0)
theorem scS_zero (ds : List Int) (num den : Int) : scS ds num den 0 = 0 := by unfold scS sumF; simp
theorem scS_neg {ds : List Int} {num den : Int} {k : Nat} (h : el ds k < 0) : scS ds num den (k + 1) = scS ds num den k := by
  unfold scS; rw [sumF, show mx0 ds k = 0 from if_pos h, Int.add_zero]
theorem scBad_at {ds : List Int} {num den : Int} {k : Nat} (hk : k < ds.length) (h : 4194304 < scF ds num den k) : scBad ds num den = true :=
  List.any_eq_true.2 ⟨k, List.mem_range.2 hk, decide_eq_true h⟩
theorem scBad_no {ds : List Int} {num den : Int} (h : ∀ k, k < ds.length → ¬ 4194304 < scF ds num den k) : scBad ds num den = false := by
  unfold scBad
  rw [List.any_eq_false]
  intro k hk
  rw [decide_eq_false (h k (List.mem_range.1 hk))]
  simp
theorem scBad_false {ds : List Int} {num den : Int} (h : scBad ds num den = false) {k : Nat} (hk : k < ds.length) : ¬ 4194304 < scF ds num den k := by
  intro h2
  rw [scBad_at hk h2] at h
  cases h
theorem sc_bd {ds : List Int} {num den : Int} (hz : ∀ z ∈ ds, -1 ≤ z ∧ z ≤ 4194304) (hn : ds.length ≤ 10000) (h0 : 0 ≤ num) (h1 : num ≤ 1000000) (h2 : 1 ≤ den) {k : Nat} (hk : k ≤ ds.length) :
    0 ≤ sumF (mx0 ds) k ∧ sumF (mx0 ds) k ≤ 41943040000 ∧ 0 ≤ sumF (mx0 ds) k * num ∧ sumF (mx0 ds) k * num ≤ 41943040000000000 ∧ 0 ≤ scS ds num den k ∧ scS ds num den k ≤ 41943040000000000 := by
  have hb := sumM_bd (M := 4194304) (by omega) (fun z h => (hz z h).2) hk
  have hb2 : sumF (mx0 ds) k ≤ 41943040000 := by
    have : (k : Int) * 4194304 ≤ 41943040000 := by omega
    omega
  have p0 : 0 ≤ sumF (mx0 ds) k * num := Int.mul_nonneg hb.1 h0
  have p1 : sumF (mx0 ds) k * num ≤ 41943040000 * 1000000 := Int.mul_le_mul hb2 h1 h0 (by omega)
  refine ⟨hb.1, hb2, p0, p1, Int.ediv_nonneg p0 (by omega), ?_⟩
  have := Int.ediv_le_self den p0
  unfold scS
  omega
theorem sc_mono {ds : List Int} {num den : Int} (hz : ∀ z ∈ ds, -1 ≤ z ∧ z ≤ 4194304) (h0 : 0 ≤ num) (h2 : 1 ≤ den) {k : Nat} (hk : k < ds.length) : scS ds num den k ≤ scS ds num den (k + 1) := by
  unfold scS
  have := mx0_bd (M := 4194304) (by omega) (fun z h => (hz z h).2) hk
  exact Int.ediv_le_ediv (by omega) (Int.mul_le_mul_of_nonneg_right (by rw [sumF]; omega) h0)
end Go.Proofs.Ytfhikdgdckfalaa
