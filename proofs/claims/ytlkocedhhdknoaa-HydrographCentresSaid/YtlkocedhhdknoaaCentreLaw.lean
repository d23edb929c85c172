/- The centre of a series: what is to be found, and that the way by moments finds it. No program in sight. -/
import Derived.Test.YtlkocedhhdknoaaMake
import Derived.Test.YtlkocedhhdknoaaPart
import Derived.Test.YtlkocedhhdknoaaValid
namespace Go.Proofs.Ytlkocedhhdknoaa
open Go.RowKit
set_option linter.unusedVariables false

def vN (zs : List Int) (k : Nat) : Nat := (el zs k).toNat
def sN (zs : List Int) : Nat → Nat
  | 0 => 0
  | k + 1 => sN zs k + vN zs k
def mN (zs : List Int) : Nat → Nat
  | 0 => 0
  | k + 1 => mN zs k + k * vN zs k
def CenV (zs : List Int) : (Int × Int) × Int := if seriesB zs = true then MakeV (mN zs zs.length) (sN zs zs.length) else ((0, 0), 1)
/-- At most 100 volumes up to 2^40. -/
structure CenOk (zs : List Int) : Prop where
  len : zs.length ≤ 100
  rng : ∀ k, k < zs.length → 0 ≤ el zs k ∧ el zs k ≤ 1099511627776
theorem CenOk.v {zs : List Int} (h : CenOk zs) {k : Nat} (hk : k < zs.length) : el zs k = (vN zs k : Int) := by
  have := (h.rng k hk).1
  unfold vN; omega
theorem CenOk.vle {zs : List Int} (h : CenOk zs) {k : Nat} (hk : k < zs.length) : vN zs k ≤ 1099511627776 := by
  have := h.v hk
  have := (h.rng k hk).2
  omega
theorem CenOk.s {zs : List Int} (h : CenOk zs) : ∀ k, k ≤ zs.length → sN zs k ≤ k * 1099511627776
  | 0, _ => Nat.zero_le _
  | k + 1, hk => by
    have h1 := h.s k (by omega)
    have h2 := h.vle (show k < zs.length by omega)
    rw [sN]; omega
theorem CenOk.m {zs : List Int} (h : CenOk zs) : ∀ k, k ≤ zs.length → mN zs k ≤ k * 109951162777600
  | 0, _ => Nat.zero_le _
  | k + 1, hk => by
    have h1 := h.m k (by omega)
    have h2 := h.vle (show k < zs.length by omega)
    have h3 := h.len
    have h4 := Nat.mul_le_mul (show k ≤ 100 by omega) h2
    rw [mN]; omega
theorem CenOk.sumF {zs : List Int} (h : CenOk zs) : ∀ k, k ≤ zs.length → sumF (el zs) k = (sN zs k : Int)
  | 0, _ => rfl
  | k + 1, hk => by
    rw [Go.Proofs.Ytlkocedhhdknoaa.sumF, h.sumF k (by omega), sN, h.v (by omega)]; omega
theorem sN_mono (zs : List Int) (k : Nat) : ∀ d, sN zs k ≤ sN zs (k + d)
  | 0 => Nat.le_refl _
  | d + 1 => by have := sN_mono zs k d; rw [← Nat.add_assoc, sN]; omega
theorem v_le_s (zs : List Int) {k n : Nat} (hk : k < n) : vN zs k ≤ sN zs n := by
  have h1 := sN_mono zs (k + 1) (n - (k + 1))
  rw [show k + 1 + (n - (k + 1)) = n by omega] at h1
  rw [sN] at h1; omega
theorem mom_W {W S R X : Nat} (h : W * S + R = X) (hS : 0 < S) : W ≤ X := by
  have := Nat.le_mul_of_pos_right W hS
  omega
theorem dbl0 {T p X i : Nat} (h : X = T / 2 ^ (i + 1) * p) (hb : T / 2 ^ i % 2 = 0) : X + X = T / 2 ^ i * p := by
  have e := shift_step T i
  rw [hb, Nat.add_zero] at e
  rw [e, Nat.mul_assoc, ← h]; omega
theorem dbl1 {T p X i : Nat} (h : X = T / 2 ^ (i + 1) * p) (hb : T / 2 ^ i % 2 = 1) : X + X + p = T / 2 ^ i * p := by
  have e := shift_step T i
  rw [hb] at e
  rw [e, Nat.add_mul, Nat.mul_assoc, ← h]; omega
theorem div_pow_le (T p i : Nat) : T / 2 ^ i * p ≤ T * p := Nat.mul_le_mul_right _ (Nat.div_le_self _ _)

/-- The end of Centre. -/
structure CenEnd (W R S M g den num : Nat) : Prop where
  eg : Nat.gcd R S = g
  ed : S / g = den
  en : W * den + R / g = num
  V : MakeV M S = if 1073741824 < num ∨ 1073741824 < den then ((0, 0), 5) else (((num : Int), (den : Int)), 0)
  V' : MakeV num den = if 1073741824 < num ∨ 1073741824 < den then ((0, 0), 5) else (((num : Int), (den : Int)), 0)
  gpos : 0 < g
  dpos : 0 < den
  dle : den ≤ S
  nle : num ≤ M
  wle : W * den ≤ M
  rle : R / g ≤ R
theorem cen_end {W R S M : Nat} (h : W * S + R = M) (hS : 0 < S) : CenEnd W R S M (Nat.gcd R S) (S / Nat.gcd R S) (W * (S / Nat.gcd R S) + R / Nat.gcd R S) := by
  have hg : Nat.gcd M S = Nat.gcd R S := by
    rw [← h, Nat.gcd_comm, Nat.gcd_mul_right_add_right, Nat.gcd_comm]
  have hpos : 0 < Nat.gcd R S := Nat.gcd_pos_of_pos_right _ hS
  have d1 : Nat.gcd R S ∣ S := Nat.gcd_dvd_right _ _
  have d2 : Nat.gcd R S ∣ R := Nat.gcd_dvd_left _ _
  have dM : Nat.gcd R S ∣ M := by rw [← hg]; exact Nat.gcd_dvd_left _ _
  have hnum : M / Nat.gcd R S = W * (S / Nat.gcd R S) + R / Nat.gcd R S := by
    obtain ⟨a, ha⟩ := d1
    obtain ⟨b, hb⟩ := d2
    generalize Nat.gcd R S = g at *
    subst ha hb
    rw [Nat.mul_div_cancel_left _ hpos, Nat.mul_div_cancel_left _ hpos, ← h, show W * (g * a) + g * b = g * (W * a + b) by rw [Nat.mul_add]; congr 1; exact Nat.mul_left_comm _ _ _, Nat.mul_div_cancel_left _ hpos]
  have hone : Nat.gcd (M / Nat.gcd R S) (S / Nat.gcd R S) = 1 := by
    rw [Nat.gcd_div dM d1, hg, Nat.div_self hpos]
  have hdpos : 0 < S / Nat.gcd R S := Nat.div_pos (Nat.le_of_dvd hS d1) hpos
  have hle : M / Nat.gcd R S ≤ M := Nat.div_le_self _ _
  refine ⟨rfl, rfl, rfl, ?_, ?_, hpos, hdpos, Nat.div_le_self _ _, by rw [← hnum]; exact hle, Nat.le_trans (Nat.le_add_right _ _) (by rw [← hnum]; exact hle), Nat.div_le_self _ _⟩
  · unfold MakeV
    rw [if_neg (by omega), hg, hnum]
  · rw [← hnum]
    unfold MakeV
    rw [if_neg (by omega), hone, Nat.div_one, Nat.div_one]
end Go.Proofs.Ytlkocedhhdknoaa
