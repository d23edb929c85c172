/- The reference's fraction of a table: the same quotient as the program's. No program in sight. -/
import Derived.Test.YtfhikdgdckfalaaMB07
import Derived.Test.YtfhikdgdckfalaaPlcR
namespace Go.Proofs.Ytfhikdgdckfalaa
open Go.RowKit
set_option linter.unusedVariables false

/-- Between which knots, by the reference. -/
def plcN (l : List Int) (x : Int) : Nat := if inL x l = true then (if lbN x l + 1 < l.length then lbN x l else l.length - 2) else lbN x l - 1
/-- Within the ends of a list. -/
def inEnds (l : List Int) (x : Int) : Prop := 0 < l.length ∧ el l 0 ≤ x ∧ x ≤ el l (l.length - 1)
theorem lb_eq {l : List Int} {x : Int} {k : Nat} (ha : Asc l) (hk : k < l.length) (h1 : ∀ j, j < k → el l j < x) (h2 : x ≤ el l k) : lbN x l = k := by
  have hle := lb_le x l
  have e1 : ¬ k < lbN x l := fun h => by have := lb_lt (x := x) (l := l) h; omega
  have e2 : ¬ lbN x l < k := fun h => by
    have a := lb_at (x := x) (l := l) (by omega)
    have b := h1 _ h
    omega
  omega
theorem plcI_eq {l : List Int} {x : Int} {i : Nat} (ha : Asc l) (hb : inEnds l x) (h2 : 2 ≤ l.length) (h : plcI l x i) : i = plcN l x := by
  obtain ⟨h0, b0, b1⟩ := hb
  obtain ⟨p, q⟩ := h
  have hi : i + 1 < l.length := by rcases p with p | p <;> omega
  have hx : el l i ≤ x := by
    rcases p with p | p
    · subst p; exact b0
    · exact p.2
  unfold plcN
  by_cases he : el l i = x
  · have hl : lbN x l = i := lb_eq ha (by omega) (fun j hj => by rw [← he]; exact ha j i hj (by omega)) (by omega)
    have hin : inL x l = true := by unfold inL; rw [hl, decide_eq_true (show i < l.length by omega), decide_eq_true he]; rfl
    rw [if_pos hin, hl, if_pos hi]
  · have hlt : el l i < x := by omega
    have hbel : ∀ j, j < i + 1 → el l j < x := fun j hj => by
      have := asc_le ha (show j ≤ i by omega) (by omega); omega
    have hup : x ≤ el l (i + 1) := by
      rcases q with q | q
      · have e : l.length - 1 = i + 1 := by omega
        rw [← e]; exact b1
      · omega
    have hl : lbN x l = i + 1 := lb_eq ha hi hbel hup
    by_cases hin : inL x l = true
    · rw [if_pos hin, hl]
      unfold inL at hin
      rw [Bool.and_eq_true, decide_eq_true_eq, decide_eq_true_eq, hl] at hin
      rcases q with q | q
      · rw [if_neg (by omega)]; omega
      · omega
    · rw [if_neg hin, hl]; omega
theorem plcN_bd {l : List Int} {x : Int} (ha : Asc l) (hb : inEnds l x) (h2 : 2 ≤ l.length) : plcN l x + 1 < l.length ∧ el l (plcN l x) ≤ x ∧ x ≤ el l (plcN l x + 1) ∧ el l (plcN l x) < el l (plcN l x + 1) := by
  obtain ⟨h0, b0, b1⟩ := hb
  have hle := lb_le x l
  have hlb : lbN x l < l.length := by
    by_cases h : lbN x l < l.length
    · exact h
    · have := lb_lt (x := x) (l := l) (k := l.length - 1) (by omega); omega
  have hat := lb_at hlb
  have key : plcN l x + 1 < l.length ∧ el l (plcN l x) ≤ x ∧ x ≤ el l (plcN l x + 1) := by
    unfold plcN
    by_cases hin : inL x l = true
    · rw [if_pos hin]
      unfold inL at hin
      rw [Bool.and_eq_true, decide_eq_true_eq, decide_eq_true_eq] at hin
      by_cases h3 : lbN x l + 1 < l.length
      · rw [if_pos h3]
        have := ha (lbN x l) (lbN x l + 1) (by omega) h3
        exact ⟨h3, by omega, by omega⟩
      · rw [if_neg h3]
        have e : l.length - 2 + 1 = lbN x l := by omega
        have := ha (l.length - 2) (lbN x l) (by omega) hlb
        rw [e]
        exact ⟨hlb, by omega, by omega⟩
    · rw [if_neg hin]
      have hne : ¬ lbN x l = 0 := fun h => by
        apply hin
        unfold inL
        rw [decide_eq_true hlb, decide_eq_true (by rw [h] at hat ⊢; omega)]; rfl
      have e : lbN x l - 1 + 1 = lbN x l := by omega
      have := lb_lt (x := x) (l := l) (k := lbN x l - 1) (by omega)
      rw [e]
      exact ⟨hlb, by omega, hat⟩
  exact ⟨key.1, key.2.1, key.2.2, ha _ _ (by omega) key.1⟩
/-- The reference's mean of a row of numbers at x: numerator, denominator. -/
def rowN (l : List Int) (x : Int) (r : Nat → Int) : Int := if l.length = 1 then r 0 else (el l (plcN l x + 1) - x) * r (plcN l x) + (x - el l (plcN l x)) * r (plcN l x + 1)
def rowD (l : List Int) (x : Int) : Int := if l.length = 1 then 1 else el l (plcN l x + 1) - el l (plcN l x)
theorem rowD_pos {l : List Int} {x : Int} (ha : Asc l) (hb : inEnds l x) : 0 < rowD l x := by
  unfold rowD
  by_cases h1 : l.length = 1
  · rw [if_pos h1]; omega
  · rw [if_neg h1]
    have := plcN_bd ha hb (by have := hb.1; omega)
    omega
theorem rowN_mix {l : List Int} {x : Int} (r : Nat → Int) (ha : Asc l) (hb : inEnds l x) :
    mixV (plcV l x).1 (r (plcV l x).1.lo.toNat) (r (plcV l x).1.hi.toNat) * rowD l x = rowN l x r * (plcV l x).1.whole := by
  have hin' : (plcV l x).2 = true := (plc_in ha hb.1).2 ⟨hb.2.1, hb.2.2⟩
  by_cases h1 : l.length = 1
  · have hlb := lb_le x l
    have hin : inL x l = true := by
      by_cases h : inL x l = true
      · exact h
      · unfold plcV at hin'
        rw [if_neg h, if_pos (by omega)] at hin'
        cases hin'
    unfold plcV rowD rowN mixV
    rw [if_pos hin, if_pos h1, if_pos h1]
    unfold inL at hin
    rw [Bool.and_eq_true, decide_eq_true_eq] at hin
    have e : lbN x l = 0 := by omega
    simp [e]
  have h2 : 2 ≤ l.length := by have := hb.1; omega
  have bd := plcN_bd ha hb h2
  unfold rowD rowN
  rw [if_neg h1, if_neg h1]
  by_cases hin : inL x l = true
  · have hin2 := hin
    unfold inL at hin2
    rw [Bool.and_eq_true, decide_eq_true_eq, decide_eq_true_eq] at hin2
    have ep : (plcV l x).1 = ⟨lbN x l, lbN x l, 0, 1⟩ := by unfold plcV; rw [if_pos hin]
    rw [ep]
    unfold mixV
    simp only [Int.toNat_natCast]
    by_cases h3 : lbN x l + 1 < l.length
    · have en : plcN l x = lbN x l := by unfold plcN; rw [if_pos hin, if_pos h3]
      rw [en, hin2.2]
      rw [Int.sub_self, Int.zero_mul, Int.zero_mul, Int.add_zero, Int.add_zero, Int.mul_one, Int.sub_zero, Int.one_mul, Int.mul_comm]
    · have en : plcN l x = l.length - 2 := by unfold plcN; rw [if_pos hin, if_neg h3]
      have e1 : plcN l x + 1 = lbN x l := by omega
      rw [e1, hin2.2]
      rw [Int.sub_self, Int.zero_mul, Int.zero_mul, Int.zero_add, Int.add_zero, Int.mul_one, Int.sub_zero, Int.one_mul, Int.mul_comm]
  · have hne : ¬ (lbN x l = 0 ∨ lbN x l = l.length) := fun h => by
      unfold plcV at hin'
      rw [if_neg hin, if_pos h] at hin'
      cases hin'
    have ep : (plcV l x).1 = ⟨(lbN x l : Int) - 1, lbN x l, x - el l (lbN x l - 1), el l (lbN x l) - el l (lbN x l - 1)⟩ := by unfold plcV; rw [if_neg hin, if_neg hne]
    have en : plcN l x = lbN x l - 1 := by unfold plcN; rw [if_neg hin]
    have e1 : lbN x l - 1 + 1 = lbN x l := by omega
    have e2 : ((lbN x l : Int) - 1).toNat = lbN x l - 1 := by omega
    rw [ep, en, e1]
    unfold mixV
    simp only [Int.toNat_natCast, e2]
    have e3 : el l (lbN x l) - el l (lbN x l - 1) - (x - el l (lbN x l - 1)) = el l (lbN x l) - x := by omega
    rw [e3]
/-- Bounds of a mean. -/
theorem rowN_bd {l : List Int} {x m M : Int} {r : Nat → Int} (ha : Asc l) (hb : inEnds l x) (hm : ∀ z ∈ l, 1 ≤ z ∧ z ≤ m) (h1m : 1 ≤ m) (hr : ∀ j, j < l.length → 0 ≤ r j ∧ r j ≤ M) :
    0 ≤ rowN l x r ∧ rowN l x r ≤ rowD l x * M ∧ 1 ≤ rowD l x ∧ rowD l x ≤ m := by
  have hp := rowD_pos ha hb
  by_cases h1 : l.length = 1
  · unfold rowN rowD
    rw [if_pos h1, if_pos h1]
    have := hr 0 (by omega)
    exact ⟨this.1, by omega, by omega, h1m⟩
  · have h2 : 2 ≤ l.length := by have := hb.1; omega
    have bd := plcN_bd ha hb h2
    unfold rowN rowD at *
    rw [if_neg h1] at *
    rw [if_neg h1]
    have r0 := hr (plcN l x) (by omega)
    have r1 := hr (plcN l x + 1) bd.1
    have z0 := hm _ (el_mem (show plcN l x < l.length by omega))
    have z1 := hm _ (el_mem bd.1)
    generalize el l (plcN l x) = a at *
    generalize el l (plcN l x + 1) = b at *
    generalize r (plcN l x) = u at *
    generalize r (plcN l x + 1) = v at *
    have a1 : 0 ≤ (b - x) * u := Int.mul_nonneg (by omega) (by omega)
    have a2 : 0 ≤ (x - a) * v := Int.mul_nonneg (by omega) (by omega)
    have a3 : (b - x) * u ≤ (b - x) * M := Int.mul_le_mul_of_nonneg_left r0.2 (by omega)
    have a4 : (x - a) * v ≤ (x - a) * M := Int.mul_le_mul_of_nonneg_left r1.2 (by omega)
    have a5 : (b - x) * M + (x - a) * M = (b - a) * M := by rw [← Int.add_mul]; congr 1; omega
    exact ⟨by omega, by omega, by omega, by omega⟩
def frcN (ds ps : List Int) (rows : List (List Int)) (x y : Int) : Int := rowN ps y fun k => rowN ds x fun j => el (tl rows k) j
def frcD (ds ps : List Int) (x y : Int) : Int := rowD ds x * rowD ps y
theorem quo_eq {a b c d : Int} (hb : 0 < b) (hd : 0 < d) (h : a * d = c * b) : a / b = c / d := by
  have e1 : a * d / (b * d) = a / b := Int.mul_ediv_mul_of_pos_left a b hd
  have e2 : c * b / (d * b) = c / d := Int.mul_ediv_mul_of_pos_left c d hb
  rw [← e1, ← e2, h, Int.mul_comm b d]
theorem frc_lo {ds ps : List Int} {rows : List (List Int)} {x y : Int} (ok : TOk ds ps rows) (hx : inEnds ds x) (hy : inEnds ps y) : frcN ds ps rows x y / frcD ds ps x y = (loV ds ps rows y x : Int) := by
  have hin : inT ds ps x y = true := by
    unfold inT
    rw [(plc_in ok.da hx.1).2 ⟨hx.2.1, hx.2.2⟩, (plc_in ok.pa hy.1).2 ⟨hy.2.1, hy.2.2⟩]; rfl
  obtain ⟨a, b, h1, h2, h3, h4, h5⟩ := dep_some ok hin
  rw [loV_eq h1, Int.natCast_ediv]
  have hin2 := hin
  unfold inT at hin2
  rw [Bool.and_eq_true] at hin2
  unfold depV at h1
  rw [if_pos hin2] at h1
  injection h1 with h1 h1'
  injection h1' with h1' _
  have d1 := rowD_pos ok.da hx
  have d2 := rowD_pos ok.pa hy
  have k0 := rowN_mix (fun j => el (tl rows (plcV ps y).1.lo.toNat) j) ok.da hx
  have k1 := rowN_mix (fun j => el (tl rows (plcV ps y).1.hi.toNat) j) ok.da hx
  have k2 := rowN_mix (fun k => rowN ds x fun j => el (tl rows k) j) ok.pa hy
  refine (quo_eq (by omega) (Int.mul_pos d1 d2) ?_).symm
  rw [← h1, ← h1']
  unfold frcN
  generalize rowN ps y (fun k => rowN ds x fun j => el (tl rows k) j) = Nn at *
  generalize (plcV ps y).1 = Q at *
  generalize (plcV ds x).1 = P at *
  generalize mixV P (el (tl rows Q.lo.toNat) P.lo.toNat) (el (tl rows Q.lo.toNat) P.hi.toNat) = A at *
  generalize mixV P (el (tl rows Q.hi.toNat) P.lo.toNat) (el (tl rows Q.hi.toNat) P.hi.toNat) = B at *
  generalize rowN ds x (fun j => el (tl rows Q.lo.toNat) j) = A' at *
  generalize rowN ds x (fun j => el (tl rows Q.hi.toNat) j) = B' at *
  generalize rowD ds x = D1 at *
  generalize rowD ps y = D2 at *
  have e1 : mixV Q A B * D1 = mixV Q A' B' * P.whole := by
    unfold mixV
    rw [Int.add_mul, Int.add_mul, Int.mul_assoc, Int.mul_assoc, k0, k1, Int.mul_assoc, Int.mul_assoc]
  rw [← Int.mul_assoc, e1, Int.mul_assoc, Int.mul_comm P.whole D2, ← Int.mul_assoc, k2, Int.mul_assoc, Int.mul_comm Q.whole]
end Go.Proofs.Ytfhikdgdckfalaa
