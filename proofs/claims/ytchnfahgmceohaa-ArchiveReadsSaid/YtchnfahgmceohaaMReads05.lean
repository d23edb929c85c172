/- A cascade of reservoirs as a plain function; nothing is lost in it. No program in sight. -/
import Derived.Test.YtchnfahgmceohaaMReads00
import Derived.Test.YtchnfahgmceohaaMReads04
import Derived.Handy

namespace Go.Proofs.Ytchnfahgmceohaa
set_option linter.unusedVariables false

/-- What the reservoirs hold at first, and a step later. -/
def H0 (i : Nat) : Int := if i = 0 then 1073741824 else 0
def hs (k : Int) (H : Nat → Int) (i : Nat) : Int := H i - H i / k + (if i = 0 then 0 else H (i - 1) / k)
def Hs (k : Int) : Nat → Nat → Int
  | 0 => H0
  | s + 1 => hs k (Hs k s)
def sumF (H : Nat → Int) : Nat → Int
  | 0 => 0
  | n + 1 => sumF H n + H n
theorem sumF_congr {F G : Nat → Int} {n : Nat} (h : ∀ k, k < n → F k = G k) : sumF F n = sumF G n := by
  induction n with
  | zero => rfl
  | succ n ih => rw [sumF, sumF, ih (fun k hk => h k (by omega)), h n (by omega)]
theorem sumF_nonneg {F : Nat → Int} {n : Nat} (h : ∀ k, k < n → 0 ≤ F k) : 0 ≤ sumF F n := by
  induction n with
  | zero => exact Int.le_refl _
  | succ n ih => have := ih (fun k hk => h k (by omega)); have := h n (by omega); rw [sumF]; omega
theorem sumF_mono {F : Nat → Int} (h : ∀ k, 0 ≤ F k) {m n : Nat} (hmn : m ≤ n) : sumF F m ≤ sumF F n := by
  induction n with
  | zero => rw [show m = 0 by omega]; exact Int.le_refl _
  | succ n ih =>
    by_cases hm : m = n + 1
    · subst hm; exact Int.le_refl _
    · have := ih (by omega); have := h n; rw [sumF]; omega
theorem sumF_elem {F : Nat → Int} (h : ∀ k, 0 ≤ F k) {i n : Nat} (hi : i < n) : F i ≤ sumF F n := by
  have h1 := sumF_mono h (show i + 1 ≤ n by omega)
  rw [sumF] at h1
  have := sumF_nonneg (F := F) (n := i) (fun k _ => h k)
  omega
theorem div_bd {a k : Int} (ha : 0 ≤ a) (hk : 1 ≤ k) : 0 ≤ a / k ∧ a / k ≤ a :=
  ⟨Int.ediv_nonneg ha (by omega), Int.ediv_le_self _ ha⟩
theorem hs_nonneg {k : Int} (hk : 1 ≤ k) {H : Nat → Int} (h : ∀ i, 0 ≤ H i) (i : Nat) : 0 ≤ hs k H i := by
  have h1 := div_bd (h i) hk
  have h2 := div_bd (h (i - 1)) hk
  unfold hs; split <;> omega
theorem Hs_nonneg {k : Int} (hk : 1 ≤ k) (s i : Nat) : 0 ≤ Hs k s i := by
  induction s generalizing i with
  | zero => show 0 ≤ H0 i; unfold H0; split <;> omega
  | succ s ih => exact hs_nonneg hk ih i
theorem sum_hs (k : Int) (H : Nat → Int) (n : Nat) : sumF (hs k H) (n + 1) = sumF H (n + 1) - H n / k := by
  induction n with
  | zero => simp [sumF, hs]
  | succ n ih =>
    rw [sumF, ih, sumF, sumF]
    have : hs k H (n + 1) = H (n + 1) - H (n + 1) / k + H n / k := by unfold hs; simp
    rw [this, sumF]; omega
theorem sum_H0 (n : Nat) : sumF H0 (n + 1) = 1073741824 := by
  induction n with
  | zero => rfl
  | succ n ih => rw [sumF, ih]; simp [H0]
theorem sum_Hs_le {k : Int} (hk : 1 ≤ k) (s n : Nat) : sumF (Hs k s) (n + 1) ≤ 1073741824 := by
  induction s with
  | zero => exact Int.le_of_eq (sum_H0 n)
  | succ s ih =>
    have h1 : sumF (Hs k (s + 1)) (n + 1) = sumF (Hs k s) (n + 1) - Hs k s n / k := sum_hs k (Hs k s) n
    have h2 := div_bd (Hs_nonneg hk s n) hk
    omega
theorem Hs_le {k : Int} (hk : 1 ≤ k) (s i : Nat) : Hs k s i ≤ 1073741824 :=
  Int.le_trans (sumF_elem (Hs_nonneg hk s) (Nat.lt_succ_self i)) (sum_Hs_le hk s i)

/-- What leaves the last of n + 1 reservoirs at step t. -/
def outF (k : Int) (m : Nat) (t : Nat) : Int := Hs k t m / k
theorem outF_bd {k : Int} (hk : 1 ≤ k) (m t : Nat) : 0 ≤ outF k m t ∧ outF k m t ≤ 1073741824 := by
  have h1 := div_bd (Hs_nonneg hk t m) hk
  have h2 := Hs_le hk t m
  unfold outF; omega
theorem sum_out (k : Int) (m s : Nat) : sumF (outF k m) s + sumF (Hs k s) (m + 1) = 1073741824 := by
  induction s with
  | zero => rw [sumF, Int.zero_add]; exact sum_H0 m
  | succ s ih =>
    have h1 : sumF (Hs k (s + 1)) (m + 1) = sumF (Hs k s) (m + 1) - Hs k s m / k := sum_hs k (Hs k s) m
    rw [sumF, h1]; unfold outF at *; omega
/-- The weights of a cascade of m + 1 reservoirs, s + 1 steps: what is left at the end is in the last one. -/
def casF (k : Int) (m s : Nat) (t : Nat) : Int := if t = s then outF k m t + sumF (Hs k (s + 1)) (m + 1) else outF k m t
def casL (k : Int) (m s : Nat) : List Int := fl (s + 1) (casF k m s)
theorem casF_bd {k : Int} (hk : 1 ≤ k) (m s t : Nat) : 0 ≤ casF k m s t ∧ casF k m s t ≤ 2147483648 := by
  have h1 := outF_bd hk m t
  have h2 := sum_Hs_le hk (s + 1) m
  have h3 := sumF_nonneg (F := Hs k (s + 1)) (n := m + 1) (fun i _ => Hs_nonneg hk _ i)
  unfold casF; split <;> omega
theorem casF_lt {k : Int} {m s t : Nat} (h : t ≠ s) : casF k m s t = outF k m t := if_neg h
theorem sum_cas (k : Int) (m s : Nat) : sumF (casF k m s) (s + 1) = 1073741824 := by
  rw [sumF, sumF_congr (G := outF k m) (fun t ht => casF_lt (by omega)), casF, if_pos rfl]
  have := sum_out k m (s + 1)
  rw [sumF] at this
  omega
def casOk (n k s : Int) : Prop := 1 ≤ n ∧ n ≤ 10 ∧ 1 ≤ k ∧ k ≤ 1000 ∧ 1 ≤ s ∧ s ≤ 1000
instance (n k s : Int) : Decidable (casOk n k s) := by unfold casOk; infer_instance
/-- The list, and the error number. -/
def CasV (n k s : Int) : List Int × Int := if casOk n k s then (casL k (n - 1).toNat (s - 1).toNat, 0) else ([], 2)

/-- What the reservoirs hold within a step, when the ones above i have been emptied (i counts down to 0; d: how many are done of m + 1). -/
def midF (k : Int) (H : Nat → Int) (i j : Nat) : Int := if j < i then H j else if j = i then H j - H j / k else hs k H j
theorem midF_done (k : Int) (H : Nat → Int) (j : Nat) : midF k H 0 j = hs k H j := by
  unfold midF
  rw [if_neg (by omega)]
  split
  · rename_i h; subst h; unfold hs; simp
  · rfl
end Go.Proofs.Ytchnfahgmceohaa

/- Looking through a list for a number outside a range; sums. The part that names no function of hydrograph. -/
namespace Go.Proofs.Ytchnfahgmceohaa
open Go.RowKit
set_option linter.unusedVariables false

/-- Whether z lies outside 0 .. m. -/
def badB (m z : Int) : Bool := decide (z < 0) || decide (m < z)
def anyBad (m : Int) (zs : List Int) : Bool := zs.any (badB m)
def inB (m : Int) (zs : List Int) : Bool := !anyBad m zs
theorem any_take {p : Int → Bool} {zs : List Int} (h : ∀ j, j < zs.length → p (el zs j) = false) : zs.any p = false := by
  rw [List.any_eq_false]
  intro x hx
  obtain ⟨i, hi, rfl⟩ := List.getElem_of_mem hx
  have := h i hi
  unfold el at this
  rw [List.getD_eq_getElem?_getD, List.getElem?_eq_getElem hi] at this
  simpa using this
theorem any_at {p : Int → Bool} {zs : List Int} {k : Nat} (hk : k < zs.length) (h : p (el zs k) = true) : zs.any p = true :=
  List.any_eq_true.2 ⟨_, el_mem hk, h⟩
theorem inB_iff {m : Int} {zs : List Int} : inB m zs = true ↔ ∀ z ∈ zs, 0 ≤ z ∧ z ≤ m := by
  unfold inB anyBad
  rw [Bool.not_eq_true', List.any_eq_false]
  constructor
  · intro h z hz
    have := h z hz
    unfold badB at this
    simp at this
    omega
  · intro h z hz
    have := h z hz
    unfold badB
    simp
    omega
theorem inB_el {m : Int} {zs : List Int} (h : inB m zs = true) {k : Nat} (hk : k < zs.length) : 0 ≤ el zs k ∧ el zs k ≤ m := inB_iff.1 h _ (el_mem hk)

/-- A place where p holds, or -1. -/
def Found (p : Int → Bool) (zs : List Int) (w : World) (e : Ending) (w' : World) : Prop := ∃ r : Int, e = .returned (.int .i64 r) ∧ w = w' ∧ -1 ≤ r ∧ r ≤ 17592186044416 ∧ zs.any p = decide (0 ≤ r)

theorem in_step {m : Int} {zs : List Int} {k : Nat} (h : ∀ j, j < k → badB m (el zs j) = false) (h0 : ¬ el zs k < 0) (h1 : ¬ m < el zs k) : ∀ j, j < k + 1 → badB m (el zs j) = false := fun j hj => by
  by_cases hjk : j = k
  · subst hjk; unfold badB; rw [decide_eq_false h0, decide_eq_false h1]; rfl
  · exact h j (by omega)
theorem in_all {m : Int} {zs : List Int} (h : ∀ j, j < zs.length → badB m (el zs j) = false) : inB m zs = true := by
  unfold inB anyBad; rw [any_take h]; rfl
theorem in_low {m : Int} {zs : List Int} {k : Nat} (hk : k < zs.length) (h : el zs k < 0) : inB m zs = false := by
  unfold inB anyBad; rw [any_at hk (by unfold badB; rw [decide_eq_true h]; rfl)]; rfl
theorem in_high {m : Int} {zs : List Int} {k : Nat} (hk : k < zs.length) (h : m < el zs k) : inB m zs = false := by
  unfold inB anyBad; rw [any_at hk (by unfold badB; rw [decide_eq_true h, Bool.or_true])]; rfl

def sumL (zs : List Int) : Int := sumF (el zs) zs.length
theorem sumF_bd {F : Nat → Int} {n : Nat} {m : Int} (h : ∀ k, k < n → 0 ≤ F k ∧ F k ≤ m) : 0 ≤ sumF F n ∧ sumF F n ≤ n * m := by
  induction n with
  | zero => simp [sumF]
  | succ n ih =>
    have h1 := ih (fun k hk => h k (by omega))
    have h2 := h n (by omega)
    rw [sumF, Int.natCast_add, Int.add_mul]
    omega
theorem inB_mono {m m' : Int} {zs : List Int} (h : inB m zs = true) (hm : m ≤ m') : inB m' zs = true :=
  inB_iff.2 fun z hz => ⟨(inB_iff.1 h z hz).1, Int.le_trans (inB_iff.1 h z hz).2 hm⟩
end Go.Proofs.Ytchnfahgmceohaa
