/- The depth of a valid table grows with the duration: blocks are not negative. No program in sight. -/
import Derived.Test.YtfhikdgdckfalaaMB07
import Derived.Test.YtfhikdgdckfalaaRun
namespace Go.Proofs.Ytfhikdgdckfalaa
open Go.RowKit
set_option linter.unusedVariables false

theorem mix_comm2 (P Q : Plc) (a b c d : Int) : mixV Q (mixV P a b) (mixV P c d) = mixV P (mixV Q a c) (mixV Q b d) := by
  unfold mixV
  generalize P.whole - P.rest = p
  generalize P.rest = p'
  generalize Q.whole - Q.rest = q
  generalize Q.rest = q'
  rw [Int.mul_add, Int.mul_add, Int.mul_add, Int.mul_add, Int.mul_left_comm q p a, Int.mul_left_comm q p' b, Int.mul_left_comm q' p c, Int.mul_left_comm q' p' d]
  omega
/-- Between which elements a number lies. -/
def PlcAt (l : List Int) (x : Int) (p : Plc) (i j : Nat) : Prop :=
  p.lo = i ∧ p.hi = j ∧ j < l.length ∧ ((i = j ∧ el l i = x ∧ p.rest = 0 ∧ p.whole = 1) ∨ (j = i + 1 ∧ el l i < x ∧ x < el l j ∧ p.rest = x - el l i ∧ p.whole = el l j - el l i))
theorem plc_at {l : List Int} {x : Int} (h : (plcV l x).2 = true) : ∃ i j : Nat, PlcAt l x (plcV l x).1 i j := by
  have hle := lb_le x l
  unfold plcV at h ⊢
  by_cases h1 : inL x l = true
  · rw [if_pos h1]
    unfold inL at h1
    rw [Bool.and_eq_true, decide_eq_true_eq, decide_eq_true_eq] at h1
    exact ⟨lbN x l, lbN x l, rfl, rfl, h1.1, .inl ⟨rfl, h1.2, rfl, rfl⟩⟩
  · rw [if_neg h1] at h ⊢
    by_cases h2 : lbN x l = 0 ∨ lbN x l = l.length
    · rw [if_pos h2] at h; cases h
    · rw [if_neg h2]
      have e2 := lb_at (x := x) (l := l) (by omega)
      have e3 := lb_lt (x := x) (l := l) (k := lbN x l - 1) (by omega)
      have hne : el l (lbN x l) ≠ x := fun e => h1 (by unfold inL; rw [decide_eq_true (show lbN x l < l.length by omega), decide_eq_true e]; rfl)
      exact ⟨lbN x l - 1, lbN x l, by show ((lbN x l : Int) - 1) = _; omega, rfl, by omega, .inr ⟨by omega, e3, by omega, rfl, rfl⟩⟩
theorem mix_ge {p : Plc} {a b : Int} (r0 : 0 ≤ p.rest) (h : a ≤ b) : p.whole * a ≤ mixV p a b := by
  have e1 : p.rest * a ≤ p.rest * b := Int.mul_le_mul_of_nonneg_left h r0
  have e2 : (p.whole - p.rest) * a + p.rest * a = p.whole * a := by rw [← Int.add_mul, Int.sub_add_cancel]
  unfold mixV; omega
theorem mix_le2 {p : Plc} {a b : Int} (r1 : p.rest ≤ p.whole) (h : a ≤ b) : mixV p a b ≤ p.whole * b := by
  have e1 : (p.whole - p.rest) * a ≤ (p.whole - p.rest) * b := Int.mul_le_mul_of_nonneg_left h (by omega)
  have e2 : (p.whole - p.rest) * b + p.rest * b = p.whole * b := by rw [← Int.add_mul, Int.sub_add_cancel]
  unfold mixV; omega
theorem mix_same (p : Plc) (a : Int) (h0 : p.rest = 0) (h1 : p.whole = 1) : mixV p a a = a := by
  unfold mixV; rw [h0, h1]; omega
theorem asc_lt_of {l : List Int} (ha : Asc l) {i j : Nat} (hi : i < l.length) (h : el l i < el l j) : i < j := by
  by_cases hh : j ≤ i
  · have := asc_le ha hh hi; omega
  · omega
theorem asc_le_of {l : List Int} (ha : Asc l) {i j : Nat} (hi : i < l.length) (h : el l i ≤ el l j) : i ≤ j := by
  by_cases hh : j < i
  · have := ha j i hh hi; omega
  · omega
/-- Mixed values of an ascending list grow with the number. -/
theorem mix_mono {l : List Int} (ha : Asc l) {x1 x2 : Int} (hx : x1 ≤ x2) {P1 P2 : Plc} {i1 j1 i2 j2 : Nat} (h1 : PlcAt l x1 P1 i1 j1) (h2 : PlcAt l x2 P2 i2 j2) (g : Nat → Int) (hg : ∀ i j, i ≤ j → j < l.length → g i ≤ g j) :
    mixV P1 (g i1) (g j1) * P2.whole ≤ mixV P2 (g i2) (g j2) * P1.whole := by
  obtain ⟨-, -, l1, c1⟩ := h1
  obtain ⟨-, -, l2, c2⟩ := h2
  rcases c1 with ⟨rfl, e1, r1, w1⟩ | ⟨rfl, a1, b1, r1, w1⟩
  · rcases c2 with ⟨rfl, e2, r2, w2⟩ | ⟨rfl, a2, b2, r2, w2⟩
    · rw [mix_same _ _ r1 w1, mix_same _ _ r2 w2, w1, w2]
      have := hg i1 i2 (asc_le_of ha l1 (by omega)) l2
      omega
    · rw [mix_same _ _ r1 w1, w1, Int.mul_one]
      have hi : i1 ≤ i2 := by have := asc_lt_of ha l1 (show el l i1 < el l (i2 + 1) by omega); omega
      have g1 := hg i1 i2 hi (by omega)
      have g2 := hg i2 (i2 + 1) (by omega) l2
      have m2 := mix_ge (p := P2) (by omega) g2
      have m3 : P2.whole * g i1 ≤ P2.whole * g i2 := Int.mul_le_mul_of_nonneg_left g1 (by omega)
      rw [Int.mul_comm]; omega
  · rcases c2 with ⟨rfl, e2, r2, w2⟩ | ⟨rfl, a2, b2, r2, w2⟩
    · rw [mix_same _ _ r2 w2, w2, Int.mul_one]
      have hi : i1 < i2 := asc_lt_of ha (by omega) (show el l i1 < el l i2 by omega)
      have g1 := hg i1 (i1 + 1) (by omega) l1
      have g2 := hg (i1 + 1) i2 (by omega) l2
      have m2 := mix_le2 (p := P1) (by omega) g1
      have m3 : P1.whole * g (i1 + 1) ≤ P1.whole * g i2 := Int.mul_le_mul_of_nonneg_left g2 (by omega)
      rw [Int.mul_comm (g i2)]; omega
    · have hi : i1 ≤ i2 := by have := asc_lt_of ha (show i1 < l.length by omega) (show el l i1 < el l (i2 + 1) by omega); omega
      have g1 := hg i1 (i1 + 1) (by omega) l1
      have g2 := hg i2 (i2 + 1) (by omega) l2
      by_cases he : i1 = i2
      · subst he
        have ew : P1.whole = P2.whole := by omega
        have hr : P1.rest ≤ P2.rest := by omega
        rw [ew]
        refine Int.mul_le_mul_of_nonneg_right ?_ (by omega)
        unfold mixV
        have e1 : (P2.rest - P1.rest) * g i1 ≤ (P2.rest - P1.rest) * g (i1 + 1) := Int.mul_le_mul_of_nonneg_left g1 (by omega)
        rw [Int.sub_mul, Int.sub_mul] at e1
        rw [Int.sub_mul, Int.sub_mul, ew]
        omega
      · have g3 := hg (i1 + 1) i2 (by omega) (by omega)
        have m1 := mix_le2 (p := P1) (by omega) g1
        have m2 := mix_ge (p := P2) (by omega) g2
        have m3 : P1.whole * g (i1 + 1) ≤ P1.whole * g i2 := Int.mul_le_mul_of_nonneg_left g3 (by omega)
        have n1 : mixV P1 (g i1) (g (i1 + 1)) * P2.whole ≤ (P1.whole * g i2) * P2.whole := Int.mul_le_mul_of_nonneg_right (by omega) (by omega)
        have n2 : (P2.whole * g i2) * P1.whole ≤ mixV P2 (g i2) (g (i2 + 1)) * P1.whole := Int.mul_le_mul_of_nonneg_right m2 (by omega)
        have n3 : (P1.whole * g i2) * P2.whole = (P2.whole * g i2) * P1.whole := by rw [Int.mul_right_comm, Int.mul_comm P1.whole P2.whole, Int.mul_right_comm]
        omega
/-- The rows of a valid table ascend. -/
theorem row_mono {ds ps : List Int} {rows : List (List Int)} (ok : VOk ds ps rows) {k : Nat} (hk : k < rows.length) : ∀ {i j : Nat}, i ≤ j → j < ds.length → el (tl rows k) i ≤ el (tl rows k) j
  | i, 0, h, _ => by obtain rfl : i = 0 := by omega
                     exact Int.le_refl _
  | i, j + 1, h, hj => by
    by_cases e : i = j + 1
    · subst e; exact Int.le_refl _
    · have h1 := row_mono ok hk (i := i) (j := j) (by omega) (by omega)
      have h2 := ((ok.2.2.2 k hk).2 (j + 1) hj).2.1 j rfl
      omega
theorem div_mono {a b c d : Nat} (hb : 0 < b) (hd : 0 < d) (h : a * d ≤ c * b) : a / b ≤ c / d := by
  rw [Nat.le_div_iff_mul_le hd]
  have h1 : a / b * b ≤ a := Nat.div_mul_le_self a b
  have h2 : a / b * d * b ≤ c * b := by
    rw [Nat.mul_right_comm]
    exact Nat.le_trans (Nat.mul_le_mul_right d h1) h
  exact Nat.le_of_mul_le_mul_right h2 hb
theorem lo_mono {ds ps : List Int} {rows : List (List Int)} (ok : VOk ds ps rows) {x1 x2 y : Int} (hx : x1 ≤ x2) (h1 : inT ds ps x1 y = true) (h2 : inT ds ps x2 y = true) : loV ds ps rows y x1 ≤ loV ds ps rows y x2 := by
  obtain ⟨a1, b1, e1, -, z1, -, -⟩ := dep_some ok.tok h1
  obtain ⟨a2, b2, e2, -, z2, -, -⟩ := dep_some ok.tok h2
  rw [loV_eq e1, loV_eq e2]
  refine div_mono z1 z2 ?_
  unfold inT at h1 h2
  rw [Bool.and_eq_true] at h1 h2
  obtain ⟨i1, j1, p1⟩ := plc_at h1.1
  obtain ⟨i2, j2, p2⟩ := plc_at h2.1
  obtain ⟨k, m, q⟩ := plc_at h1.2
  unfold depV at e1 e2
  rw [if_pos h1] at e1
  rw [if_pos h2] at e2
  have kk : k < rows.length ∧ m < rows.length := by
    rw [ok.2.2.1]
    rcases q.2.2.2 with ⟨h, -⟩ | ⟨h, -⟩ <;> (have := q.2.2.1; omega)
  have qr : 0 ≤ (plcV ps y).1.rest ∧ (plcV ps y).1.rest ≤ (plcV ps y).1.whole := by
    rcases q.2.2.2 with ⟨h, a, b, c⟩ | ⟨h, a, b, c, d⟩ <;> omega
  generalize (plcV ds x1).1 = P1 at *
  generalize (plcV ds x2).1 = P2 at *
  generalize (plcV ps y).1 = Q at *
  have mono := mix_mono ok.1.asc hx p1 p2 (fun t => mixV Q (el (tl rows k) t) (el (tl rows m) t)) (fun i j hij hj => by
    have s1 := row_mono ok kk.1 hij hj
    have s2 := row_mono ok kk.2 hij hj
    have t1 : (Q.whole - Q.rest) * el (tl rows k) i ≤ (Q.whole - Q.rest) * el (tl rows k) j := Int.mul_le_mul_of_nonneg_left s1 (by omega)
    have t2 : Q.rest * el (tl rows m) i ≤ Q.rest * el (tl rows m) j := Int.mul_le_mul_of_nonneg_left s2 qr.1
    unfold mixV
    omega)
  obtain ⟨l1, m1, -⟩ := p1
  obtain ⟨l2, m2, -⟩ := p2
  obtain ⟨l3, m3, -⟩ := q
  rw [l1, m1, l3, m3, mix_comm2] at e1
  rw [l2, m2, l3, m3, mix_comm2] at e2
  simp only [Int.toNat_natCast, Prod.mk.injEq, and_true] at e1 e2
  obtain ⟨ea1, eb1⟩ := e1
  obtain ⟨ea2, eb2⟩ := e2
  rw [ea1, ea2] at mono
  have fin : (a1 : Int) * (b2 : Int) ≤ (a2 : Int) * (b1 : Int) := by
    rw [← eb1, ← eb2, ← Int.mul_assoc, ← Int.mul_assoc]
    exact Int.mul_le_mul_of_nonneg_right mono (by omega)
  have : ((a1 * b2 : Nat) : Int) ≤ ((a2 * b1 : Nat) : Int) := by rw [Int.natCast_mul, Int.natCast_mul]; exact fin
  exact Int.ofNat_le.1 this
/-- What the blocks of a valid table are: not negative, and their sums are the depths. -/
theorem cum_step {ds ps : List Int} {rows : List (List Int)} (ok : VOk ds ps rows) {y st : Int} {n k : Nat} (hs : 0 ≤ st) (he : endsB ds ps y st n = true) (hk : k < n) : 0 ≤ blkF ds ps rows y st k := by
  unfold blkF cumV
  rw [if_neg (by omega)]
  by_cases h0 : k = 0
  · rw [if_pos h0]; omega
  · rw [if_neg h0]
    have d0 : 0 < ds.length := by have := ok.1.2.2.1; omega
    have m := lo_mono (rows := rows) ok (x1 := (k : Int) * st) (x2 := ((k + 1 : Nat) : Int) * st) (y := y) (Int.mul_le_mul_of_nonneg_right (by omega) hs) (ends_in ok.1.asc d0 hs he (by omega) (by omega)) (ends_in ok.1.asc d0 hs he (by omega) (by omega))
    omega
theorem cum_le {ds ps : List Int} {rows : List (List Int)} (ok : VOk ds ps rows) {y st : Int} {n k : Nat} (hs : 0 ≤ st) (he : endsB ds ps y st n = true) (hk : k ≤ n) : 0 ≤ cumV ds ps rows y st k ∧ cumV ds ps rows y st k ≤ 4194304 := by
  unfold cumV
  by_cases h0 : k = 0
  · rw [if_pos h0]; omega
  · rw [if_neg h0]
    have d0 : 0 < ds.length := by have := ok.1.2.2.1; omega
    have := loV_le (rows := rows) ok.tok (ends_in ok.1.asc d0 hs he (show 1 ≤ k by omega) hk)
    omega
theorem blk_rng {ds ps : List Int} {rows : List (List Int)} (ok : VOk ds ps rows) {y st : Int} {n k : Nat} (hs : 0 ≤ st) (he : endsB ds ps y st n = true) (hk : k < n) : 0 ≤ el (blkL ds ps rows y st n) k ∧ el (blkL ds ps rows y st n) k ≤ 4194304 := by
  unfold blkL
  rw [el_fl _ hk]
  refine ⟨cum_step ok hs he hk, ?_⟩
  have h1 := cum_le ok hs he (show k ≤ n by omega)
  have h2 := cum_le ok hs he (show k + 1 ≤ n by omega)
  unfold blkF; omega
theorem sumF_tele (F : Nat → Int) (h0 : F 0 = 0) : ∀ k, sumF (fun j => F (j + 1) - F j) k = F k
  | 0 => by rw [sumF, h0]
  | k + 1 => by rw [sumF, sumF_tele F h0 k]; omega
theorem mx0_nonneg {zs : List Int} {k : Nat} (h : 0 ≤ el zs k) : mx0 zs k = el zs k := by
  unfold mx0; rw [if_neg (by omega)]
theorem blk_run {ds ps : List Int} {rows : List (List Int)} (ok : VOk ds ps rows) {y st : Int} {n k : Nat} (hs : 0 ≤ st) (he : endsB ds ps y st n = true) (hk : k ≤ n) : runV (blkL ds ps rows y st n) 0 k = cumV ds ps rows y st k := by
  unfold runV
  rw [Nat.zero_add, sumF, Int.sub_zero]
  rw [← sumF_tele (cumV ds ps rows y st) (by unfold cumV; rw [if_pos rfl]) k]
  refine sumF_congr fun j hj => ?_
  rw [mx0_nonneg (blk_rng ok hs he (by omega)).1]
  unfold blkL
  rw [el_fl _ (by omega)]
  rfl
end Go.Proofs.Ytfhikdgdckfalaa
