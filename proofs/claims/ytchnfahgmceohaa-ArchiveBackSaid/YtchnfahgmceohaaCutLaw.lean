/- What is decoded of an archive that is cut: plain lists. No program in sight. -/
import Derived.Test.YtchnfahgmceohaaDecLaw
namespace Go.Proofs.Ytchnfahgmceohaa
open Go.RowKit
set_option linter.unusedVariables false

theorem frst_take : ∀ {bs : List Int} {m : Nat}, m ≤ frst bs → frst (bs.take m) = m
  | [], m, h => by
    have : m = 0 := by simpa [frst] using h
    subst this; rfl
  | z :: r, 0, _ => by rw [List.take_zero]; rfl
  | z :: r, m + 1, h => by
    rw [frst] at h
    split at h
    · omega
    · rename_i hz
      rw [List.take_succ_cons, frst, if_neg hz, frst_take (by omega)]
theorem getN_end {bs : List Int} (h : bs.length ≤ frst bs) : getN bs = (0, 8, bs) := by unfold getN; rw [if_pos h]
theorem dec_part (f : Nat) (s : SerD) (m : Nat) (out : List SerD) (h : validD s = true) (hm : out.length < 1000) (h0 : 0 < m) (h1 : m < (recD s).length) : decGo (f + 1) ((recD s).take m) out = ([], 8) := by
  have hp := payL_len s.f s.st s.ds
  have hn1 := (validS_parts h).1.n1
  have e : recD s = putL (payL s.f s.st s.ds).length ++ (payL s.f s.st s.ds ++ be4 (sumB (payL s.f s.st s.ds))) := by unfold recD recL; simp
  have b4 : (be4 (sumB (payL s.f s.st s.ds))).length = 4 := rfl
  generalize payL s.f s.st s.ds = P at *
  have hg := putGo_get 9 P.length (P ++ be4 (sumB P)) (by omega)
  have hfr : frst (putL P.length ++ (P ++ be4 (sumB P))) + 1 = (putL P.length).length := hg.1
  have hlt : ((recD s).take m).length = m := by rw [List.length_take]; omega
  rw [decGo, if_neg (by omega), if_neg (by omega)]
  by_cases hc : m < (putL P.length).length
  · have hf : frst ((recD s).take m) = m := frst_take (by rw [e]; omega)
    rw [getN_end (by omega), if_pos (by simp)]
  · have he : (recD s).take m = putL P.length ++ (P ++ be4 (sumB P)).take (m - (putL P.length).length) := by
      rw [e, List.take_append, List.take_of_length_le (by omega)]
    have hl : (recD s).length = (putL P.length).length + (P.length + 4) := by rw [e]; simp only [List.length_append, b4]
    rw [he, getN_put (by omega), if_neg (by simp), if_pos]
    show (((P ++ be4 (sumB P)).take (m - (putL P.length).length)).length : Int) - 4 < (P.length : Int)
    rw [List.length_take, List.length_append, b4]
    omega
theorem dec_walk : ∀ (ss : List SerD) (f : Nat) (r : List Int) (out : List SerD), (∀ s ∈ ss, validD s = true) → out.length + ss.length ≤ 1000 → decGo (f + ss.length) (ss.flatMap recD ++ r) out = decGo f r (out ++ ss)
  | [], f, r, out, _, _ => by simp
  | s :: ss, f, r, out, h, hm => by
    have e : recD s = recL s.f s.st s.ds := rfl
    rw [List.flatMap_cons, List.append_assoc, List.length_cons, ← Nat.add_assoc, e, dec_step (f + ss.length) s _ out (h s (by simp)) (by simp at hm; omega), dec_walk ss f r (out ++ [s]) (fun x hx => h x (List.mem_cons_of_mem _ hx)) (by simp at hm ⊢; omega)]
    simp
/-- Where a cut lies. -/
theorem cut_at : ∀ (ss : List SerD) (n : Nat), n ≤ (ss.flatMap recD).length → (∃ a b, ss = a ++ b ∧ n = (a.flatMap recD).length) ∨ ∃ a s b m, ss = a ++ s :: b ∧ 0 < m ∧ m < (recD s).length ∧ n = (a.flatMap recD).length + m
  | [], n, h => .inl ⟨[], [], rfl, by simpa using h⟩
  | s :: ss, n, h => by
    by_cases h0 : n = 0
    · exact .inl ⟨[], s :: ss, rfl, by simpa using h0⟩
    · by_cases h1 : n < (recD s).length
      · exact .inr ⟨[], s, ss, n, rfl, by omega, h1, by simp⟩
      · rw [List.flatMap_cons, List.length_append] at h
        rcases cut_at ss (n - (recD s).length) (by omega) with ⟨a, b, rfl, e⟩ | ⟨a, x, b, m, rfl, m0, m1, e⟩
        · exact .inl ⟨s :: a, b, rfl, by rw [List.flatMap_cons, List.length_append]; omega⟩
        · exact .inr ⟨s :: a, x, b, m, rfl, m0, m1, by rw [List.flatMap_cons, List.length_append]; omega⟩
theorem enc_mono (ss : List SerD) (k : Nat) : (encL (ss.take k)).length ≤ (encL ss).length := by
  have e : ss.flatMap recD = (ss.take k).flatMap recD ++ (ss.drop k).flatMap recD := by rw [← List.flatMap_append, List.take_append_drop]
  unfold encL
  rw [List.length_append, List.length_append, e, List.length_append]
  omega
theorem enc_pre (a b : List SerD) : (encL (a ++ b)).take (encL a).length = encL a := by
  have e : encL (a ++ b) = encL a ++ b.flatMap recD := by unfold encL; rw [List.flatMap_append, List.append_assoc]
  rw [e, List.take_left' rfl]
/-- What is decoded of an archive of which n bytes are left. -/
theorem cut_hit {ss : List SerD} (h : ∀ s ∈ ss, validD s = true) (hm : ss.length ≤ 1000) (hl : (encL ss).length ≤ 1048576) {k n : Nat} (hk : k ≤ ss.length) (hn : (encL (ss.take k)).length = n) : decL ((encL ss).take n) = (ss.take k, 0) := by
  have e := enc_pre (ss.take k) (ss.drop k)
  rw [List.take_append_drop, hn] at e
  rw [e]
  exact dec_enc _ (fun s hs => h s (List.mem_of_mem_take hs)) (by rw [List.length_take]; omega) (by have := enc_mono ss k; omega)
theorem cut_miss {ss : List SerD} (h : ∀ s ∈ ss, validD s = true) (hm : ss.length ≤ 1000) (hl : (encL ss).length ≤ 1048576) {n : Nat} (hn : n ≤ (encL ss).length) (hno : ∀ k, k ≤ ss.length → ¬ (encL (ss.take k)).length = n) :
    decL ((encL ss).take n) = ([], 8) ∨ n < 3 ∧ decL ((encL ss).take n) = ([], 7) := by
  have e3 : encL ss = [82, 65, 1] ++ ss.flatMap recD := rfl
  have hlt : ((encL ss).take n).length = n := by rw [List.length_take]; omega
  by_cases h3 : n < 3
  · refine .inr ⟨h3, ?_⟩
    unfold decL
    rw [if_neg (by omega), if_pos]
    intro hc
    have := congrArg List.length hc
    rw [List.length_take, hlt] at this
    simp at this
    omega
  · refine .inl ?_
    have hlen : (encL ss).length = 3 + (ss.flatMap recD).length := by rw [e3, List.length_append]; rfl
    have ht : (encL ss).take n = [82, 65, 1] ++ (ss.flatMap recD).take (n - 3) := by
      rw [e3, List.take_append, List.take_of_length_le (by simp; omega)]
      rfl
    have t3 : ((encL ss).take n).take 3 = [82, 65, 1] := by rw [ht]; exact List.take_left' rfl
    have d3 : ((encL ss).take n).drop 3 = (ss.flatMap recD).take (n - 3) := by rw [ht]; exact List.drop_left' rfl
    unfold decL
    rw [if_neg (by omega), if_neg (by rw [t3]; simp), d3, hlt]
    rcases cut_at ss (n - 3) (by omega) with ⟨a, b, rfl, e⟩ | ⟨a, s, b, m, rfl, m0, m1, e⟩
    · exfalso
      refine hno a.length (by simp) ?_
      rw [List.take_left' rfl]
      show ([82, 65, 1] ++ a.flatMap recD).length = n
      rw [List.length_append, ← e]
      simp
      omega
    · have hal := flat_len a
      have er : ((a ++ s :: b).flatMap recD).take (n - 3) = a.flatMap recD ++ (recD s).take m := by
        rw [List.flatMap_append, List.flatMap_cons, List.take_append, List.take_of_length_le (by omega), e, Nat.add_sub_cancel_left, List.take_append_of_le_length (by omega)]
      have hs : validD s = true := h s (by simp)
      obtain ⟨f, hf⟩ : ∃ f, n = f + 1 + a.length := ⟨n - 1 - a.length, by omega⟩
      rw [er, hf, dec_walk a (f + 1) _ [] (fun x hx => h x (by simp [hx])) (by simp at hm ⊢; omega), dec_part f s m _ hs (by simp at hm ⊢; omega) m0 m1]
end Go.Proofs.Ytchnfahgmceohaa
