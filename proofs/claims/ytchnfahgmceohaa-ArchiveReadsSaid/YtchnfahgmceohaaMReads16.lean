/- The records of an archive as a plain function, and that it undoes encL. No program in sight. -/
import Derived.Test.YtchnfahgmceohaaMReads15
import Derived.Test.YtchnfahgmceohaaMReads10
import Derived.Laws.BitsLemmas

namespace Go.Proofs.Ytchnfahgmceohaa
open Go.RowKit
set_option linter.unusedVariables false

theorem serL_pay (f st : Int) (ds : List Int) (h : validS f st ds = true) : serL (payL f st ds) = (⟨f, st, ds⟩, 0) := by
  obtain ⟨hf, hd⟩ := validS_parts h
  have hf0 := hf.f0
  have hf1 := hf.f1
  have hs0 := hf.s0
  have hs1 := hf.s1
  have hn1 := hf.n1
  have hfo := foldN_le (z := f) (by omega) (by omega)
  have e : payL f st ds = putL (foldN f) ++ (putL st.toNat ++ (putL ds.length ++ packL ds)) := by unfold payL; simp
  have hp := inP_dep hd
  have hst : ((st.toNat : Nat) : Int) = st := by omega
  generalize payL f st ds = P at *
  have g0 : getN P = (foldN f, 0, putL st.toNat ++ (putL ds.length ++ packL ds)) := by rw [e]; exact getN_put (by omega) _
  have g1 := getN_put (n := st.toNat) (by omega) (putL ds.length ++ packL ds)
  have g2 := getN_put (n := ds.length) (by omega) (packL ds)
  have r0 : rstN P 0 = P := rfl
  have r1 : rstN P 1 = putL st.toNat ++ (putL ds.length ++ packL ds) := by rw [rstN, r0, g0]
  have r2 : rstN P 2 = putL ds.length ++ packL ds := by rw [rstN, r1, g1]
  have r3 : rstN P 3 = packL ds := by rw [rstN, r2, g2]
  have n0 : numN P 0 = foldN f := by unfold numN; rw [r0, g0]
  have n1 : numN P 1 = st.toNat := by unfold numN; rw [r1, g1]
  have n2 : numN P 2 = ds.length := by unfold numN; rw [r2, g2]
  have x0 : errN P 0 = 0 := by unfold errN; rw [r0, g0]
  have x1 : errN P 1 = 0 := by unfold errN; rw [r1, g1]
  have x2 : errN P 2 = 0 := by unfold errN; rw [r2, g2]
  have u : unpS P = (0, ds, []) := by
    unfold unpS
    rw [n2, r3]
    have := unp_all hp (by omega) []
    rwa [List.append_nil] at this
  unfold serL
  rw [if_neg (by rw [x0, x1, x2]; simp), n2, if_neg (by omega), u, if_neg (by simp), n0, n1, unfold_fold, hst, if_neg (by rw [h]; simp)]

/-- The number that four bytes are, the highest first. -/
def val4 (l : List Int) : Int := ((el l 0 * 256 + el l 1) * 256 + el l 2) * 256 + el l 3
theorem val4_be4 (n : Int) (h0 : 0 ≤ n) (h1 : n < 4294967296) : val4 (be4 n) = n := by
  show ((n / 16777216 % 256 * 256 + n / 65536 % 256) * 256 + n / 256 % 256) * 256 + n % 256 = n
  omega
/-- Records, as long as there are bytes: the records, the error. -/
def decGo : Nat → List Int → List SerD → List SerD × Int
  | 0, bs, out => (out, 0)
  | f + 1, bs, out =>
    if bs.length = 0 then (out, 0)
    else if out.length = 1000 then ([], 4)
    else if ¬ (getN bs).2.1 = 0 then ([], (getN bs).2.1)
    else if ((getN bs).2.2.length : Int) - 4 < (getN bs).1 then ([], 8)
    else if ¬ val4 (((getN bs).2.2.drop (getN bs).1).take 4) = sumB ((getN bs).2.2.take (getN bs).1) then ([], 18)
    else if ¬ (serL ((getN bs).2.2.take (getN bs).1)).2 = 0 then ([], (serL ((getN bs).2.2.take (getN bs).1)).2)
    else decGo f ((getN bs).2.2.drop ((getN bs).1 + 4)) (out ++ [(serL ((getN bs).2.2.take (getN bs).1)).1])
def decL (bs : List Int) : List SerD × Int :=
  if 1048576 < bs.length then ([], 4)
  else if ¬ bs.take 3 = [82, 65, 1] then ([], 7)
  else decGo bs.length (bs.drop 3) []
theorem decGo_nil (f : Nat) (out : List SerD) : decGo f [] out = (out, 0) := by
  cases f
  · rfl
  · rw [decGo, if_pos (show ([] : List Int).length = 0 from rfl)]
theorem dec_step (f : Nat) (s : SerD) (r : List Int) (out : List SerD) (h : validS s.f s.st s.ds = true) (hm : out.length < 1000) : decGo (f + 1) (recL s.f s.st s.ds ++ r) out = decGo f r (out ++ [s]) := by
  have hl := recL_len s.f s.st s.ds
  have hp := payL_len s.f s.st s.ds
  have hn1 := (validS_parts h).1.n1
  have sb := sumB_bd (payL s.f s.st s.ds)
  have e : recL s.f s.st s.ds ++ r = putL (payL s.f s.st s.ds).length ++ (payL s.f s.st s.ds ++ (be4 (sumB (payL s.f s.st s.ds)) ++ r)) := by unfold recL; simp
  have g := getN_put (n := (payL s.f s.st s.ds).length) (by omega) (payL s.f s.st s.ds ++ (be4 (sumB (payL s.f s.st s.ds)) ++ r))
  have b4 : (be4 (sumB (payL s.f s.st s.ds))).length = 4 := rfl
  have sp := serL_pay s.f s.st s.ds h
  rw [decGo, if_neg (by rw [List.length_append]; omega), if_neg (by omega), e, g]
  generalize hP : payL s.f s.st s.ds = P at *
  have d1 : (P ++ (be4 (sumB P) ++ r)).drop P.length = be4 (sumB P) ++ r := List.drop_left' rfl
  have d2 : (P ++ (be4 (sumB P) ++ r)).take P.length = P := List.take_left' rfl
  have d3 : (be4 (sumB P) ++ r).take 4 = be4 (sumB P) := List.take_left' b4
  have d4 : (P ++ (be4 (sumB P) ++ r)).drop (P.length + 4) = r := by rw [← List.drop_drop, d1, List.drop_left' b4]
  rw [if_neg (by simp), if_neg (by simp only [List.length_append]; rw [b4]; omega), if_neg (by simp only [d1, d2, d3]; rw [val4_be4 _ sb.1 sb.2]; simp), if_neg (by simp only [d2]; rw [sp]; simp)]
  simp only [d2, d4, sp]
theorem dec_all : ∀ (ss : List SerD) (f : Nat) (out : List SerD), (∀ s ∈ ss, validS s.f s.st s.ds = true) → ss.length ≤ f → out.length + ss.length ≤ 1000 → decGo f (ss.flatMap recD) out = (out ++ ss, 0)
  | [], f, out, _, _, _ => by rw [List.flatMap_nil, decGo_nil, List.append_nil]
  | s :: ss, f, out, h, hf, hm => by
    obtain ⟨f, rfl⟩ : ∃ k, f = k + 1 := ⟨f - 1, by simp at hf; omega⟩
    rw [List.flatMap_cons]
    have e : recD s = recL s.f s.st s.ds := rfl
    rw [e, dec_step f s _ out (h s (by simp)) (by simp at hm; omega), dec_all ss f (out ++ [s]) (fun x hx => h x (List.mem_cons_of_mem _ hx)) (by simpa using hf) (by simp at hm ⊢; omega)]
    simp
theorem recD_len (s : SerD) : 8 ≤ (recD s).length := (recL_len s.f s.st s.ds).1
theorem flat_len : ∀ ss : List SerD, ss.length ≤ (ss.flatMap recD).length
  | [] => by simp
  | s :: ss => by
    have h1 := flat_len ss
    have h2 := recD_len s
    rw [List.flatMap_cons, List.length_append, List.length_cons]
    omega
theorem dec_enc (ss : List SerD) (h : ∀ s ∈ ss, validS s.f s.st s.ds = true) (hm : ss.length ≤ 1000) (hl : (encL ss).length ≤ 1048576) : decL (encL ss) = (ss, 0) := by
  have e : encL ss = [82, 65, 1] ++ ss.flatMap recD := rfl
  have hf := flat_len ss
  have hlen : (encL ss).length = 3 + (ss.flatMap recD).length := by rw [e, List.length_append]; rfl
  unfold decL
  have t3 : (encL ss).take 3 = [82, 65, 1] := by rw [e]; exact List.take_left' rfl
  have d3 : (encL ss).drop 3 = ss.flatMap recD := by rw [e]; exact List.drop_left' rfl
  rw [if_neg (by omega), if_neg (by rw [t3]; simp), d3, dec_all ss _ [] h (by omega) (by simp; omega), List.nil_append]
end Go.Proofs.Ytchnfahgmceohaa

/- Four bytes as a number, step by step. -/
namespace Go.Proofs.Ytchnfahgmceohaa
open Go.RowKit
set_option linter.unusedVariables false

theorem or8 (a b : Nat) (h : a < 16777216) (hb : b < 256) : bits .or .u32 ((256 * a : Nat) : Int) (b : Int) = ((256 * a + b : Nat) : Int) := by
  rw [bits_join .u32 32 (by decide) (fun n h0 h1 => by rw [IntKind.wrap_u32]; omega) 8 _ _ (by omega) (by omega) (by omega) (by omega) (by omega) (by omega)]
  omega
def valTo (l : List Int) : Nat → Nat
  | 0 => 0
  | k + 1 => 256 * valTo l k + (el l k).toNat
theorem valTo_lt {l : List Int} (h : ∀ k, 0 ≤ el l k ∧ el l k ≤ 255) : ∀ k, valTo l k < 256 ^ k
  | 0 => by simp [valTo]
  | k + 1 => by
    have h1 := valTo_lt h k
    have h2 := h k
    rw [valTo, Nat.pow_succ]
    omega
theorem valTo_four {l : List Int} (h : ∀ k, 0 ≤ el l k ∧ el l k ≤ 255) : (valTo l 4 : Int) = val4 l := by
  have h0 := h 0
  have h1 := h 1
  have h2 := h 2
  have h3 := h 3
  show ((256 * (256 * (256 * (256 * 0 + (el l 0).toNat) + (el l 1).toNat) + (el l 2).toNat) + (el l 3).toNat : Nat) : Int) = ((el l 0 * 256 + el l 1) * 256 + el l 2) * 256 + el l 3
  omega
end Go.Proofs.Ytchnfahgmceohaa
