/- Numbers read from bytes, packed integers read from bytes: plain functions, and that they undo putL and packL. No program in sight. -/
import Derived.Test.YtchnfahgmceohaaMReads02
import Derived.Test.YtchnfahgmceohaaMReads10

namespace Go.Proofs.Ytchnfahgmceohaa
open Go.RowKit
set_option linter.unusedVariables false

/-- The index of the first byte below 128 (the length where there is none). -/
def frst : List Int → Nat
  | [] => 0
  | z :: r => if z < 128 then 0 else frst r + 1
theorem frst_le (bs : List Int) : frst bs ≤ bs.length := by
  induction bs with
  | nil => exact Nat.le_refl _
  | cons z r ih => rw [frst]; split <;> simp <;> omega
theorem el_zero (z : Int) (r : List Int) : el (z :: r) 0 = z := rfl
theorem el_succ (z : Int) (r : List Int) (k : Nat) : el (z :: r) (k + 1) = el r k := rfl
theorem frst_at : ∀ {bs : List Int} {k : Nat}, k < bs.length → (∀ j, j < k → ¬ el bs j < 128) → el bs k < 128 → frst bs = k
  | [], k, h, _, _ => absurd h (by simp)
  | z :: r, 0, _, _, h => by rw [frst, if_pos (show z < 128 from h)]
  | z :: r, k + 1, h, hn, hl => by
    rw [frst, if_neg (by have := hn 0 (by omega); exact this), frst_at (by simpa using h) (fun j hj => hn (j + 1) (by omega)) hl]
theorem frst_none : ∀ {bs : List Int}, (∀ j, j < bs.length → ¬ el bs j < 128) → frst bs = bs.length
  | [], _ => rfl
  | z :: r, h => by
    rw [frst, if_neg (show ¬ z < 128 from h 0 (by simp)), frst_none (fun j hj => h (j + 1) (by simpa using hj))]
    rfl
/-- The value of groups of seven bits, the lowest first. -/
def valL : List Int → Nat
  | [] => 0
  | d :: r => (d % 128).toNat + 128 * valL r
theorem valL_lt : ∀ ds : List Int, valL ds < 128 ^ ds.length
  | [] => by simp [valL]
  | d :: r => by
    have := valL_lt r
    rw [valL, List.length_cons, Nat.pow_succ]
    have h1 : (d % 128).toNat < 128 := by omega
    omega
/-- The number, the error, what is left. -/
def getN (bs : List Int) : Nat × Int × List Int :=
  if bs.length ≤ frst bs then (0, 8, bs)
  else if 8 < frst bs ∨ (0 < frst bs ∧ el bs (frst bs) = 0) then (0, 7, bs.drop (frst bs + 1))
  else if 1152921504606846975 < valL (bs.take (frst bs + 1)) then (0, 7, bs.drop (frst bs + 1))
  else (valL (bs.take (frst bs + 1)), 0, bs.drop (frst bs + 1))
theorem getN_lt (bs : List Int) : (getN bs).1 ≤ 1152921504606846975 := by
  unfold getN
  split <;> (try split) <;> (try split) <;> simp <;> omega
theorem getN_err (bs : List Int) : (getN bs).2.1 = 0 ∨ (getN bs).2.1 = 7 ∨ (getN bs).2.1 = 8 := by
  unfold getN
  split <;> (try split) <;> (try split) <;> simp
theorem getN_rest (bs : List Int) : ∃ k, k ≤ bs.length ∧ (getN bs).2.2 = bs.drop k := by
  unfold getN
  have := frst_le bs
  split
  · exact ⟨0, by omega, rfl⟩
  · rename_i h
    split
    · exact ⟨frst bs + 1, by omega, rfl⟩
    · split
      · exact ⟨frst bs + 1, by omega, rfl⟩
      · exact ⟨frst bs + 1, by omega, rfl⟩

theorem putGo_get : ∀ (f n : Nat) (r : List Int), n < 128 ^ (f + 1) → frst (putGo f n ++ r) + 1 = (putGo f n).length ∧ valL (putGo f n) = n ∧ (0 < frst (putGo f n ++ r) → ¬ el (putGo f n ++ r) (frst (putGo f n ++ r)) = 0)
  | 0, n, r, h => by
    rw [putGo]
    have h1 : (n : Int) < 128 := by omega
    refine ⟨?_, ?_, ?_⟩
    · show frst ((n : Int) :: r) + 1 = 1
      rw [frst, if_pos h1]
    · show ((n : Int) % 128).toNat + 128 * 0 = n
      omega
    · show 0 < frst ((n : Int) :: r) → _
      rw [frst, if_pos h1]
      intro h; omega
  | f + 1, n, r, h => by
    rw [putGo]
    by_cases h1 : 128 ≤ n
    · rw [if_pos h1]
      obtain ⟨a, b, c⟩ := putGo_get f (n / 128) r (by rw [Nat.pow_succ] at h; exact Nat.div_lt_of_lt_mul (by omega))
      have hf : frst (((n % 128 + 128 : Nat) : Int) :: putGo f (n / 128) ++ r) = frst (putGo f (n / 128) ++ r) + 1 := by
        rw [List.cons_append, frst, if_neg (by omega)]
      refine ⟨?_, ?_, ?_⟩
      · rw [hf, List.length_cons, a]
      · rw [valL, b]
        omega
      · intro _
        rw [hf, List.cons_append, el_succ]
        by_cases h0 : 0 < frst (putGo f (n / 128) ++ r)
        · exact c h0
        · have h2 : frst (putGo f (n / 128) ++ r) = 0 := by omega
          rw [h2]
          have hl : (putGo f (n / 128)).length = 1 := by omega
          match hp : putGo f (n / 128), hl with
          | [z], _ =>
            rw [hp] at b
            show ¬ z = 0
            intro hz
            subst hz
            simp [valL] at b
            omega
    · rw [if_neg h1]
      have h1 : (n : Int) < 128 := by omega
      refine ⟨?_, ?_, ?_⟩
      · show frst ((n : Int) :: r) + 1 = 1
        rw [frst, if_pos h1]
      · show ((n : Int) % 128).toNat + 128 * 0 = n
        omega
      · show 0 < frst ((n : Int) :: r) → _
        rw [frst, if_pos h1]
        intro h; omega
theorem putGo_len_le : ∀ (f k n : Nat), n < 128 ^ (k + 1) → (putGo f n).length ≤ k + 1
  | 0, k, n, _ => by simp [putGo]
  | f + 1, 0, n, h => by rw [putGo, if_neg (by omega)]; simp
  | f + 1, k + 1, n, h => by
    rw [putGo]
    split
    · have := putGo_len_le f k (n / 128) (by rw [Nat.pow_succ] at h; exact Nat.div_lt_of_lt_mul (by omega))
      simp; omega
    · simp
theorem putL_len_le {n : Nat} (k : Nat) (h : n < 128 ^ (k + 1)) : (putL n).length ≤ k + 1 := putGo_len_le 9 k n h
theorem getN_put {n : Nat} (h : n ≤ 1152921504606846975) (r : List Int) : getN (putL n ++ r) = (n, 0, r) := by
  obtain ⟨a, b, c⟩ := putGo_get 9 n r (by omega)
  have hl := putL_len_le (n := n) 8 (by omega)
  have a' : frst (putL n ++ r) + 1 = (putL n).length := a
  have b' : valL (putL n) = n := b
  have c' : 0 < frst (putL n ++ r) → ¬ el (putL n ++ r) (frst (putL n ++ r)) = 0 := c
  unfold getN
  rw [if_neg (by rw [List.length_append]; omega), if_neg (by
    intro h
    rcases h with h | ⟨h1, h2⟩
    · omega
    · exact c' h1 h2), a', List.take_left' rfl, b', List.drop_left' rfl, if_neg (by omega)]

/-- The integer that is written as a number. -/
def unfoldN (n : Nat) : Int := if n % 2 = 1 then -(((n + 1) / 2 : Nat) : Int) else ((n / 2 : Nat) : Int)
theorem unfold_fold (z : Int) : unfoldN (foldN z) = z := by
  unfold unfoldN foldN
  split
  · split <;> omega
  · split <;> omega
theorem unfoldN_le (n : Nat) : -((n : Int) + 1) ≤ unfoldN n ∧ unfoldN n ≤ n := by unfold unfoldN; split <;> omega
def outP (z : Int) : Bool := decide (z < -1099511627776) || decide (1099511627776 < z)
/-- n integers: the error, what came, what is left. -/
def unpGo : Nat → Nat → Int → Bool → List Int → List Int → Int × List Int × List Int
  | 0, n, v, st, bs, out => (0, out, bs)
  | f + 1, n, v, st, bs, out =>
    if n = 0 then (0, out, bs)
    else if ¬ (getN bs).2.1 = 0 then ((getN bs).2.1, out, (getN bs).2.2)
    else if (getN bs).1 < 2 then (7, out, (getN bs).2.2)
    else if (getN bs).1 % 2 = 0 then
      if n < (getN bs).1 / 2 ∨ st = true then (7, out, (getN bs).2.2)
      else unpGo f (n - (getN bs).1 / 2) v true (getN bs).2.2 (out ++ List.replicate ((getN bs).1 / 2) v)
    else if outP (v + unfoldN ((getN bs).1 / 2)) then (7, out, (getN bs).2.2)
    else unpGo f (n - 1) (v + unfoldN ((getN bs).1 / 2)) false (getN bs).2.2 (out ++ [v + unfoldN ((getN bs).1 / 2)])
theorem unpGo_zero (f : Nat) (v : Int) (st : Bool) (bs out : List Int) : unpGo f 0 v st bs out = (0, out, bs) := by
  cases f
  · rfl
  · rw [unpGo, if_pos rfl]
theorem unp_run {f n run : Nat} {v : Int} (bs out : List Int) (h0 : 0 < run) (h1 : run ≤ n) (h2 : run ≤ 1000000) : unpGo (f + 1) n v false (putL (2 * run) ++ bs) out = unpGo f (n - run) v true bs (out ++ List.replicate run v) := by
  rw [unpGo, getN_put (by omega), if_neg (by omega), if_neg (by simp), if_neg (by simp; omega), if_pos (by simp), if_neg (by simp; omega)]
  rw [show (2 * run, (0 : Int), bs).1 / 2 = run by simp]
theorem unp_step {f n : Nat} {v z : Int} (st : Bool) (bs out : List Int) (h0 : 0 < n) (hv : -1099511627776 ≤ v ∧ v ≤ 1099511627776) (hz : -1099511627776 ≤ z ∧ z ≤ 1099511627776) (hne : ¬ z = v) :
    unpGo (f + 1) n v st (putL (2 * foldN (z - v) + 1) ++ bs) out = unpGo f (n - 1) z false bs (out ++ [z]) := by
  have hf := foldN_le (z := z - v) (by omega) (by omega)
  have hp : 0 < foldN (z - v) := by unfold foldN; split <;> omega
  rw [unpGo, getN_put (by omega), if_neg (by omega), if_neg (by simp), if_neg (by simp; try omega), if_neg (by simp; try omega)]
  have e : (2 * foldN (z - v) + 1, (0 : Int), bs).1 / 2 = foldN (z - v) := by show (2 * foldN (z - v) + 1) / 2 = _; omega
  rw [e, unfold_fold, show v + (z - v) = z by omega, if_neg (by unfold outP; simp; omega)]
theorem unp_pack : ∀ (l : List Int) (f run : Nat) (last : Int) (out r : List Int), inP l → -1099511627776 ≤ last ∧ last ≤ 1099511627776 → run + l.length ≤ f → run + l.length ≤ 1000000 →
    unpGo f (run + l.length) last false (packGo last run l ++ r) out = (0, out ++ (List.replicate run last ++ l), r)
  | [], f, run, last, out, r, _, hl, hf, hm => by
    rw [packGo, List.append_nil]
    by_cases h0 : 0 < run
    · unfold runL
      rw [if_pos h0]
      obtain ⟨f', rfl⟩ : ∃ f', f = f' + 1 := ⟨f - 1, by simp at hf; omega⟩
      rw [unp_run _ _ h0 (by simp) (by simp at hm; omega), show run + ([] : List Int).length - run = 0 by simp, unpGo_zero]
    · obtain rfl : run = 0 := by omega
      rw [show 0 + ([] : List Int).length = 0 from rfl, unpGo_zero]
      simp [runL]
  | z :: l, f, run, last, out, r, hp, hl, hf, hm => by
    have hz : -1099511627776 ≤ z ∧ z ≤ 1099511627776 := hp z (by simp)
    have hp' : inP l := fun x hx => hp x (List.mem_cons_of_mem _ hx)
    simp only [List.length_cons] at hf hm
    rw [packGo]
    by_cases he : z = last
    · rw [if_pos he]
      subst he
      have := unp_pack l f (run + 1) z out r hp' hl (by omega) (by omega)
      rw [show run + (z :: l).length = run + 1 + l.length by simp; omega, this, List.replicate_succ']
      simp
    · rw [if_neg he]
      have key : ∀ (f' : Nat) (st : Bool) (out' : List Int), 1 + l.length ≤ f' → unpGo f' (1 + l.length) last st (putL (2 * foldN (z - last) + 1) ++ (packGo z 0 l ++ r)) out' = (0, out' ++ z :: l, r) := by
        intro f' st out' hf'
        obtain ⟨f2, rfl⟩ : ∃ f2, f' = f2 + 1 := ⟨f' - 1, by omega⟩
        rw [unp_step st _ _ (by omega) hl hz he]
        have := unp_pack l f2 0 z (out' ++ [z]) r hp' hz (by omega) (by omega)
        rw [show 1 + l.length - 1 = 0 + l.length by omega, this]
        simp
      rw [List.append_assoc, List.append_assoc]
      by_cases h0 : 0 < run
      · unfold runL
        rw [if_pos h0]
        obtain ⟨f', rfl⟩ : ∃ f', f = f' + 1 := ⟨f - 1, by omega⟩
        rw [unp_run _ _ h0 (by simp) (by omega), show run + (z :: l).length - run = 1 + l.length by simp; omega, key f' true _ (by omega)]
        simp
      · obtain rfl : run = 0 := by omega
        unfold runL
        rw [if_neg (by omega), List.nil_append, show 0 + (z :: l).length = 1 + l.length by simp; omega, key f false _ (by omega)]
        simp
theorem unp_all {l : List Int} (h : inP l) (hm : l.length ≤ 1000000) (r : List Int) : unpGo l.length l.length 0 false (packL l ++ r) [] = (0, l, r) := by
  have := unp_pack l l.length 0 0 [] r h (by omega) (by omega) (by omega)
  simpa [packL] using this
end Go.Proofs.Ytchnfahgmceohaa

/- The record of a payload, as a plain function. No program in sight. -/
namespace Go.Proofs.Ytchnfahgmceohaa
open Go.RowKit
set_option linter.unusedVariables false

/-- What is left behind k numbers. -/
def rstN (p : List Int) : Nat → List Int
  | 0 => p
  | k + 1 => (getN (rstN p k)).2.2
def numN (p : List Int) (k : Nat) : Nat := (getN (rstN p k)).1
def errN (p : List Int) (k : Nat) : Int := (getN (rstN p k)).2.1
/-- Three numbers, and how the integers behind them are read. -/
def unpS (p : List Int) : Int × List Int × List Int := unpGo (numN p 2) (numN p 2) 0 false (rstN p 3) []
def zeroS : SerD := ⟨0, 0, []⟩
def serL (p : List Int) : SerD × Int :=
  if ¬ errN p 0 = 0 ∨ ¬ errN p 1 = 0 ∨ ¬ errN p 2 = 0 then (zeroS, 7)
  else if 10000 < numN p 2 then (zeroS, 7)
  else if ¬ (unpS p).1 = 0 ∨ 0 < (unpS p).2.2.length then (zeroS, 7)
  else if validS (unfoldN (numN p 0)) (numN p 1) (unpS p).2.1 = false then (zeroS, 1)
  else (⟨unfoldN (numN p 0), numN p 1, (unpS p).2.1⟩, 0)
theorem serL_err {p : List Int} {k : Nat} (hk : k < 3) (h : ¬ errN p k = 0) : serL p = (zeroS, 7) := by
  unfold serL
  rw [if_pos]
  match k, hk with
  | 0, _ => exact .inl h
  | 1, _ => exact .inr (.inl h)
  | 2, _ => exact .inr (.inr h)
end Go.Proofs.Ytchnfahgmceohaa
