/- How many bytes packed integers take. No program in sight. -/
import Derived.Test.YtchnfahgmceohaaGetLaw
namespace Go.Proofs.Ytchnfahgmceohaa
open Go.RowKit
set_option linter.unusedVariables false

theorem runL_len2 {run : Nat} (h : run ≤ 8000) : (runL run).length ≤ 7 * run ∧ (runL run).length ≤ 2 := by
  unfold runL
  split
  · have := putL_len_le (n := 2 * run) 1 (by omega)
    omega
  · simp
theorem packGo_len7 : ∀ (l : List Int) (last : Int) (run : Nat), inP l → -1099511627776 ≤ last ∧ last ≤ 1099511627776 → run + l.length ≤ 8000 → (packGo last run l).length ≤ 7 * (run + l.length)
  | [], last, run, _, _, h => by
    rw [packGo]
    have := (runL_len2 (run := run) (by simpa using h)).1
    simpa using this
  | z :: r, last, run, hp, hl, h => by
    rw [packGo]
    have hz := hp z (by simp)
    have hr : inP r := fun x hx => hp x (List.mem_cons_of_mem _ hx)
    simp only [List.length_cons] at h ⊢
    split
    · have := packGo_len7 r last (run + 1) hr hl (by omega)
      omega
    · have h1 := packGo_len7 r z 0 hr hz (by omega)
      have h2 := (runL_len2 (run := run) (by omega)).1
      have hf := foldN_le (z := z - last) (by omega) (by omega)
      have h3 := putL_len_le (n := 2 * foldN (z - last) + 1) 6 (by omega)
      simp only [List.length_append]
      omega
theorem pack_len7 {l : List Int} (hp : inP l) (h : l.length ≤ 8000) : (packL l).length ≤ 7 * l.length := by
  have := packGo_len7 l 0 0 hp (by omega) (by omega)
  unfold packL
  omega
theorem packGo_same : ∀ (k : Nat) (v : Int) (run : Nat), packGo v run (List.replicate k v) = runL (run + k)
  | 0, v, run => by rw [List.replicate_zero, packGo, Nat.add_zero]
  | k + 1, v, run => by rw [List.replicate_succ, packGo, if_pos rfl, packGo_same k v (run + 1)]; congr 1; omega
theorem runL_len3 {run : Nat} (h : run ≤ 10000) : (runL run).length ≤ 3 := by
  unfold runL
  split
  · exact putL_len_le (n := 2 * run) 2 (by omega)
  · simp
theorem pack_same8 {m : Nat} {v : Int} (hm : m ≤ 10000) (hv : -2147483648 ≤ v ∧ v ≤ 2147483647) : (packL (List.replicate m v)).length ≤ 8 := by
  unfold packL
  match m with
  | 0 => simp [packGo, runL]
  | m + 1 =>
    rw [List.replicate_succ, packGo]
    split
    · rename_i h0
      subst h0
      rw [packGo_same]
      have := runL_len3 (run := 0 + 1 + m) (by omega)
      omega
    · rw [packGo_same]
      have h1 := runL_len3 (run := 0 + m) (by omega)
      have h0 : runL 0 = [] := rfl
      have hf : foldN (v - 0) ≤ 4294967296 := by unfold foldN; split <;> omega
      have h2 := putL_len_le (n := 2 * foldN (v - 0) + 1) 4 (by omega)
      rw [h0]
      simp only [List.length_append, List.length_nil]
      omega
/-- Whether z is no integer to be packed. -/
def bigP (z : Int) : Bool := decide (z < -1099511627776) || decide (1099511627776 < z)
theorem inP_of {l : List Int} (h : l.any bigP = false) : inP l := by
  rw [List.any_eq_false] at h
  intro z hz
  have := h z hz
  unfold bigP at this
  simp at this
  omega
end Go.Proofs.Ytchnfahgmceohaa
