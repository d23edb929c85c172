/- Years make no tail less and keep the sum; the mean grade grows. No program in sight. -/
import Derived.Test.YtihaabdgligbbaaRepLaw
import Derived.Test.YtihaabdgligbbaaExpect
namespace Go.Proofs.Ytihaabdgligbbaa
open Go.RowKit
set_option linter.unusedVariables false

theorem sumF_mono0 {F G : Nat → Int} {n : Nat} (h : ∀ k, k < n → F k ≤ G k) : sumF F n ≤ sumF G n := by
  induction n with
  | zero => exact Int.le_refl _
  | succ n ih =>
    have h1 := ih (fun k hk => h k (by omega))
    have h2 := h n (by omega)
    rw [sumF, sumF]; omega
section
variable {ts : List (List Int)} {l : List Int} (h : YearOk ts l)
include h
/-- What the first m grades bring to the grades below k. -/
theorem YearOk.pre {k : Nat} (hk : k ≤ l.length) : ∀ m, m ≤ l.length → sumF (Go.Proofs.Ytihaabdgligbbaa.yF ts l m) k ≤ sumF (fun i => if i < k then Go.Proofs.Ytihaabdgligbbaa.el l i else 0) m
  | 0, _ => by
    show sumF (fun _ => (0 : Int)) k ≤ 0
    rw [sumF_zero (fun j hj => rfl)]
    exact Int.le_refl _
  | m + 1, hm => by
    have h1 := YearOk.pre hk m (by omega)
    have hs := h.share (show m < l.length by omega)
    have hr := rowB_parts (h.row (show m < l.length by omega))
    rw [show Go.Proofs.Ytihaabdgligbbaa.yF ts l (m + 1) = fun j => Go.Proofs.Ytihaabdgligbbaa.yF ts l m j + shF (Go.Proofs.Ytihaabdgligbbaa.el l m) (tl ts m) j from rfl, sumF_add, sumF, shF_sum]
    have hq := qk_bd hs (show k ≤ (tl ts m).length by rw [hr.1]; exact hk)
    have h2 : (Go.Proofs.Ytihaabdgligbbaa.el l m) * sumF (Go.Proofs.Ytihaabdgligbbaa.el (tl ts m)) k / sumL (tl ts m) ≤ if m < k then Go.Proofs.Ytihaabdgligbbaa.el l m else 0 := by
      by_cases hmk : m < k
      · rw [if_pos hmk]; exact hq.2
      · rw [if_neg hmk]
        have hz : sumF (Go.Proofs.Ytihaabdgligbbaa.el (tl ts m)) k = 0 := by
          have a1 := sumF_le (F := Go.Proofs.Ytihaabdgligbbaa.el (tl ts m)) (n := m) (k := k) (fun j hj => (inB_el hr.2.1 (by omega)).1) (by omega)
          have a2 := (part_bd hr.2.1 (show k ≤ (tl ts m).length by rw [hr.1]; exact hk)).1
          have a3 := hr.2.2.2
          omega
        rw [hz, Int.mul_zero, Int.zero_ediv]
        exact Int.le_refl _
    omega
omit h in
theorem sumF_cut (F : Nat → Int) (k : Nat) : ∀ m, k ≤ m → sumF (fun i => if i < k then F i else 0) m = sumF F k
  | m, hm => by
    have h1 := sumF_split (fun i => if i < k then F i else 0) k (m - k)
    rw [show k + (m - k) = m by omega] at h1
    rw [h1, sumF_congr (G := F) (fun j hj => by rw [if_pos hj]), sumF_zero (F := fun j => if k + j < k then F (k + j) else 0) (fun j hj => by rw [if_neg (by omega)])]
    omega
theorem YearOk.wor : Wor (yearL ts l) l := by
  refine ⟨h.next.s, h.s, yearL_length _ _, h.sum, fun k hk => ?_⟩
  rw [yearL_length] at hk
  have h1 := YearOk.pre h hk l.length (Nat.le_refl _)
  rw [sumF_cut _ k _ hk] at h1
  rwa [sumF_congr (F := Go.Proofs.Ytihaabdgligbbaa.el (yearL ts l)) (G := Go.Proofs.Ytihaabdgligbbaa.yF ts l l.length) (fun j hj => el_fl _ (by omega))]
theorem YearOk.wors : ∀ n, Wor (yearsL ts l n) l
  | 0 => Wor.refl h.s
  | n + 1 => (h.years n).1.wor.trans (YearOk.wors n)
end
theorem years_add (ts : List (List Int)) (l : List Int) (n : Nat) : ∀ m, yearsL ts (yearsL ts l n) m = yearsL ts l (n + m)
  | 0 => rfl
  | m + 1 => by rw [yearsL, years_add ts l n m, show n + (m + 1) = (n + m) + 1 by omega, yearsL]
theorem given_ok {ts : List (List Int)} {l : List Int} (h : YearOk ts l) : givenE ts l = 0 := by
  unfold givenE; rw [h.v, h.s, if_neg (by decide), if_pos h.len]
theorem Wor.tl {a b : List Int} (h : Wor a b) {k : Nat} (hk : k ≤ a.length) : tlS b k ≤ tlS a k := by
  rw [tlS_eq hk, tlS_eq (by rw [← h.len]; exact hk), h.sum]
  have := h.pre k hk
  omega
theorem gN_eq {l : List Int} (h : ∀ k, k < l.length → 0 ≤ el l k) : ∀ n, n ≤ l.length → (gN l n : Int) = n * sumF (el l) n - sumF (fun k => sumF (el l) k) n
  | 0, _ => by simp [gN, sumF]
  | n + 1, hn => by
    have h1 := gN_eq h n (by omega)
    have h2 := h n (by omega)
    rw [gN, sumF, sumF]
    rw [Int.natCast_add, h1, Int.natCast_mul, Int.toNat_of_nonneg h2]
    rw [show ((n + 1 : Nat) : Int) = (n : Int) + 1 by omega, Int.mul_add, Int.add_mul, Int.add_mul]
    omega
theorem Wor.gN {a b : List Int} (h : Wor a b) : Go.Proofs.Ytihaabdgligbbaa.gN b b.length ≤ Go.Proofs.Ytihaabdgligbbaa.gN a a.length := by
  have ha := fun k hk => (inB_el (stockB_parts h.sa).2.2.1 (k := k) hk).1
  have hb := fun k hk => (inB_el (stockB_parts h.sb).2.2.1 (k := k) hk).1
  have h1 := gN_eq ha _ (Nat.le_refl _)
  have h2 := gN_eq hb _ (Nat.le_refl _)
  have h3 := h.sum
  unfold sumL at h3
  have h4 := sumF_mono0 (F := fun k => sumF (el a) k) (G := fun k => sumF (el b) k) (n := a.length) (fun k hk => h.pre k (by omega))
  rw [← h.len] at h2 h3
  rw [h3] at h1
  have h5 : (Go.Proofs.Ytihaabdgligbbaa.gN b a.length : Int) ≤ Go.Proofs.Ytihaabdgligbbaa.gN a a.length := by rw [h1, h2]; omega
  rw [← h.len]
  omega

/-- What Make gives where it gives a fraction. -/
theorem make_ok {N D : Nat} (h : (MakeV N D).2 = 0) : 0 < D ∧ ∃ n d : Nat, MakeV N D = (((n : Int), (d : Int)), 0) ∧ n * Nat.gcd N D = N ∧ d * Nat.gcd N D = D ∧ 1 ≤ d ∧ n ≤ 1073741824 ∧ d ≤ 1073741824 ∧ Nat.gcd n d = 1 := by
  unfold MakeV at *
  by_cases h0 : D = 0
  · rw [if_pos h0] at h; simp at h
  · rw [if_neg h0] at h ⊢
    by_cases h1 : 1073741824 < N / Nat.gcd N D ∨ 1073741824 < D / Nat.gcd N D
    · rw [if_pos h1] at h; simp at h
    · rw [if_neg h1]
      have hg : 0 < Nat.gcd N D := Nat.gcd_pos_of_pos_right _ (by omega)
      have e1 : N / Nat.gcd N D * Nat.gcd N D = N := Nat.div_mul_cancel (Nat.gcd_dvd_left _ _)
      have e2 : D / Nat.gcd N D * Nat.gcd N D = D := Nat.div_mul_cancel (Nat.gcd_dvd_right _ _)
      refine ⟨by omega, N / Nat.gcd N D, D / Nat.gcd N D, rfl, e1, e2, ?_, by omega, by omega, Nat.gcd_div_gcd_div_gcd_of_pos_right (by omega)⟩
      rcases Nat.eq_zero_or_pos (D / Nat.gcd N D) with h3 | h3
      · rw [h3] at e2; omega
      · exact h3
theorem make_err (N D : Nat) : (MakeV N D).2 = 0 ∨ MakeV N D = ((0, 0), 16) ∨ MakeV N D = ((0, 0), 5) := by
  unfold MakeV
  split
  · exact .inr (.inl rfl)
  · split
    · exact .inr (.inr rfl)
    · exact .inl rfl
/-- Two fractions with one denominator, the first not greater. -/
theorem frac_le {N1 N2 D g1 g2 n1 d1 n2 d2 : Nat} (h : N1 ≤ N2) (hD : 0 < D) (a1 : n1 * g1 = N1) (a2 : d1 * g1 = D) (b1 : n2 * g2 = N2) (b2 : d2 * g2 = D) : n1 * d2 ≤ n2 * d1 := by
  have p1 : 0 < g1 := by rcases Nat.eq_zero_or_pos g1 with h | h; · subst h; omega
                         · exact h
  have p2 : 0 < g2 := by rcases Nat.eq_zero_or_pos g2 with h | h; · subst h; omega
                         · exact h
  have h1 : n1 * d2 * (g1 * g2) ≤ n2 * d1 * (g1 * g2) := by
    calc n1 * d2 * (g1 * g2) = (n1 * g1) * (d2 * g2) := by ac_rfl
      _ = N1 * D := by rw [a1, b2]
      _ ≤ N2 * D := Nat.mul_le_mul_right _ h
      _ = (n2 * g2) * (d1 * g1) := by rw [b1, a2]
      _ = n2 * d1 * (g1 * g2) := by ac_rfl
  exact Nat.le_of_mul_le_mul_right h1 (Nat.mul_pos p1 p2)
end Go.Proofs.Ytihaabdgligbbaa
