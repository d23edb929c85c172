/- Looking through a list for a number outside a range; sums. The part that names no function of hydrograph. -/
import Derived.Test.YtchnfahgmceohaaSlices
import Derived.Test.YtchnfahgmceohaaCasLaw
import Derived.Handy
namespace Go.Proofs.Ytchnfahgmceohaa
open Go.RowKit
set_option linter.unusedVariables false

/-- Whether z lies outside 0 .. m. -/
def badB (m z : Int) : Bool := decide (z < 0) || decide (m < z)
def anyBad (m : Int) (zs : List Int) : Bool := zs.any (badB m)
def inB (m : Int) (zs : List Int) : Bool := !anyBad m zs
theorem any_take {p : Int → Bool} {zs : List Int} (h : ∀ j, j < zs.length → p (el zs j) = false) : zs.any p = false := by
  rw [List.any_eq_false]
  intro x hx
  obtain ⟨i, hi, rfl⟩ := List.getElem_of_mem hx
  have := h i hi
  unfold el at this
  rw [List.getD_eq_getElem?_getD, List.getElem?_eq_getElem hi] at this
  simpa using this
theorem any_at {p : Int → Bool} {zs : List Int} {k : Nat} (hk : k < zs.length) (h : p (el zs k) = true) : zs.any p = true :=
  List.any_eq_true.2 ⟨_, el_mem hk, h⟩
theorem inB_iff {m : Int} {zs : List Int} : inB m zs = true ↔ ∀ z ∈ zs, 0 ≤ z ∧ z ≤ m := by
  unfold inB anyBad
  rw [Bool.not_eq_true', List.any_eq_false]
  constructor
  · intro h z hz
    have := h z hz
    unfold badB at this
    simp at this
    omega
  · intro h z hz
    have := h z hz
    unfold badB
    simp
    omega
theorem inB_el {m : Int} {zs : List Int} (h : inB m zs = true) {k : Nat} (hk : k < zs.length) : 0 ≤ el zs k ∧ el zs k ≤ m := inB_iff.1 h _ (el_mem hk)

/-- A place where p holds, or -1. -/
def Found (p : Int → Bool) (zs : List Int) (w : World) (e : Ending) (w' : World) : Prop := ∃ r : Int, e = .returned (.int .i64 r) ∧ w = w' ∧ -1 ≤ r ∧ r ≤ 17592186044416 ∧ zs.any p = decide (0 ≤ r)

theorem in_step {m : Int} {zs : List Int} {k : Nat} (h : ∀ j, j < k → badB m (el zs j) = false) (h0 : ¬ el zs k < 0) (h1 : ¬ m < el zs k) : ∀ j, j < k + 1 → badB m (el zs j) = false := fun j hj => by
  by_cases hjk : j = k
  · subst hjk; unfold badB; rw [decide_eq_false h0, decide_eq_false h1]; rfl
  · exact h j (by omega)
theorem in_all {m : Int} {zs : List Int} (h : ∀ j, j < zs.length → badB m (el zs j) = false) : inB m zs = true := by
  unfold inB anyBad; rw [any_take h]; rfl
theorem in_low {m : Int} {zs : List Int} {k : Nat} (hk : k < zs.length) (h : el zs k < 0) : inB m zs = false := by
  unfold inB anyBad; rw [any_at hk (by unfold badB; rw [decide_eq_true h]; rfl)]; rfl
theorem in_high {m : Int} {zs : List Int} {k : Nat} (hk : k < zs.length) (h : m < el zs k) : inB m zs = false := by
  unfold inB anyBad; rw [any_at hk (by unfold badB; rw [decide_eq_true h, Bool.or_true])]; rfl

def sumL (zs : List Int) : Int := sumF (el zs) zs.length
theorem sumF_bd {F : Nat → Int} {n : Nat} {m : Int} (h : ∀ k, k < n → 0 ≤ F k ∧ F k ≤ m) : 0 ≤ sumF F n ∧ sumF F n ≤ n * m := by
  induction n with
  | zero => simp [sumF]
  | succ n ih =>
    have h1 := ih (fun k hk => h k (by omega))
    have h2 := h n (by omega)
    rw [sumF, Int.natCast_add, Int.add_mul]
    omega
theorem inB_mono {m m' : Int} {zs : List Int} (h : inB m zs = true) (hm : m ≤ m') : inB m' zs = true :=
  inB_iff.2 fun z hz => ⟨(inB_iff.1 h z hz).1, Int.le_trans (inB_iff.1 h z hz).2 hm⟩
end Go.Proofs.Ytchnfahgmceohaa
