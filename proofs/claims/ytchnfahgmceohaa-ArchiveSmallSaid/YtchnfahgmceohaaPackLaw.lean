/- Packed integers as a plain function. No program in sight. -/
import Derived.Test.YtchnfahgmceohaaPutLaw
namespace Go.Proofs.Ytchnfahgmceohaa
open Go.RowKit
set_option linter.unusedVariables false

/-- The bytes of a run of equal integers. -/
def runL (run : Nat) : List Int := if 0 < run then putL (2 * run) else []
def packGo (last : Int) (run : Nat) : List Int → List Int
  | [] => runL run
  | z :: r => if z = last then packGo last (run + 1) r else runL run ++ (putL (2 * foldN (z - last) + 1) ++ packGo z 0 r)
def packL (l : List Int) : List Int := packGo 0 0 l
theorem runL_len (run : Nat) : (runL run).length ≤ 10 := by
  unfold runL; split
  · exact (putL_len _).2
  · simp
theorem drop_el {l : List Int} {k : Nat} (h : k < l.length) : l.drop k = el l k :: l.drop (k + 1) := by
  rw [List.drop_eq_getElem_cons h]
  congr 1
  unfold el; rw [List.getD_eq_getElem?_getD, List.getElem?_eq_getElem h]; rfl
theorem pack_same {l : List Int} {k : Nat} {run : Nat} (h : k < l.length) : packGo (el l k) run (l.drop k) = packGo (el l k) (run + 1) (l.drop (k + 1)) := by
  rw [drop_el h, packGo, if_pos rfl]
theorem pack_other {l : List Int} {k : Nat} {last : Int} {run : Nat} (h : k < l.length) (hne : ¬ el l k = last) : packGo last run (l.drop k) = runL run ++ (putL (2 * foldN (el l k - last) + 1) ++ packGo (el l k) 0 (l.drop (k + 1))) := by
  rw [drop_el h, packGo, if_neg hne]
theorem packGo_len (l : List Int) : ∀ last run, (packGo last run l).length ≤ 20 * l.length + 10 := by
  induction l with
  | nil => intro last run; rw [packGo]; have := runL_len run; simp; omega
  | cons z r ih =>
    intro last run
    rw [packGo]
    split
    · have := ih last (run + 1); simp; omega
    · have h1 := ih z 0
      have h2 := runL_len run
      have h3 := putL_len (2 * foldN (z - last) + 1)
      simp; omega
/-- Integers of at most 2^40. -/
def inP (l : List Int) : Prop := ∀ z ∈ l, -1099511627776 ≤ z ∧ z ≤ 1099511627776
theorem inP_el {l : List Int} (h : inP l) (k : Nat) : -1099511627776 ≤ el l k ∧ el l k ≤ 1099511627776 := by
  by_cases hk : k < l.length
  · exact h _ (el_mem hk)
  · unfold el; rw [List.getD_eq_getElem?_getD, List.getElem?_eq_none (by omega)]; simp
theorem foldN_le {z : Int} (h0 : -4398046511104 ≤ z) (h1 : z ≤ 4398046511104) : foldN z ≤ 8796093022208 := by unfold foldN; split <;> omega
end Go.Proofs.Ytchnfahgmceohaa
