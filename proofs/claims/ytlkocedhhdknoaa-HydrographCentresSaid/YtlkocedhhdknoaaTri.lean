/- Triangle of the program and of the reference: for right arguments the weights of a triangle, else none and the error number. -/
import Derived.Test.YtlkocedhhdknoaaOwn
import Derived.Test.YtlkocedhhdknoaaSlices
namespace Go.Proofs.Ytlkocedhhdknoaa
open Go.RowKit
set_option linter.unusedVariables false

def triE (r f i : Int) : Int := min (i * f) ((r + f - i) * r)
def triL (r f : Int) (k : Nat) : List Int := (List.range k).map fun (i : Nat) => triE r f ((i : Int) + 1)
theorem triL_succ (r f : Int) (k : Nat) : triL r f (k + 1) = triL r f k ++ [triE r f (k + 1)] := by simp [triL, List.range_succ]
theorem triL_zero (r f : Int) : triL r f 0 = [] := rfl
theorem triL_length (r f : Int) (k : Nat) : (triL r f k).length = k := by simp [triL]
def triOk (r f : Int) : Prop := 1 ≤ r ∧ r ≤ 500 ∧ 1 ≤ f ∧ f ≤ 500
instance (r f : Int) : Decidable (triOk r f) := by unfold triOk; infer_instance
/-- The list, and the error number. -/
def TriV (r f : Int) : List Int × Int := if triOk r f then (triL r f (r + f - 1).toNat, 0) else ([], 2)
theorem tri_bd {r f i : Int} (hr0 : 1 ≤ r) (hr : r ≤ 500) (hf0 : 1 ≤ f) (hf : f ≤ 500) (hi : 1 ≤ i) (hi2 : i < r + f) : 0 ≤ i * f ∧ i * f ≤ 500000 ∧ 0 ≤ (r + f - i) * r ∧ (r + f - i) * r ≤ 500000 := by
  have h1 : 0 ≤ i * f := Int.mul_nonneg (by omega) (by omega)
  have h2 : i * f ≤ 1000 * 500 := Int.mul_le_mul (by omega) hf (by omega) (by omega)
  have h3 : 0 ≤ (r + f - i) * r := Int.mul_nonneg (by omega) (by omega)
  have h4 : (r + f - i) * r ≤ 1000 * 500 := Int.mul_le_mul (by omega) hr (by omega) (by omega)
  exact ⟨h1, by omega, h3, by omega⟩

theorem tri_step {w wr w1 : World} {B : Nat} {v v' : Value} {r f x y : Int} {k : Nat} (h : Own wr B v (triL r f k)) (hb : Below B w wr) (h' : Own w1 B v' (triL r f k ++ [y])) (hb' : Below B wr w1) (hx : x = k + 1) (hy : triE r f x = y) :
    Own w1 B v' (triL r f (k + 1)) ∧ Below B w w1 := by
  subst hx
  rw [triL_succ, hy]
  exact ⟨h', hb.trans hb'⟩

set_option maxHeartbeats 1000000 in
theorem Triangle_calls (r f : Int) (w : World) :
    Calls Try.prog 13 #[.int .i64 r, .int .i64 f] w (RetL (TriV r f).1 (TriV r f).2 w) := by
  obtain ⟨V, hV⟩ : ∃ V, TriV r f = V := ⟨_, rfl⟩
  rw [hV]
  unfold TriV at hV
  by_cases hok : triOk r f
  · rw [if_pos hok] at hV
    have HV := Lib.hid hV
    clear hV
    obtain ⟨hr0, hr, hf0, hf⟩ := hok
    have n1 : ¬ r < 1 := by omega
    have n2 : ¬ 500 < r := by omega
    have n3 : ¬ f < 1 := by omega
    have n4 : ¬ 500 < f := by omega
    go_enter Try.func13, Try.ntmps13
    go_wp2
    go_loopw [6, 7] (fun v i wr => ∃ (k : Nat) (x : Int), Hid (x = k + 1) ∧ 1 ≤ x ∧ x ≤ r + f ∧ i = .int .i64 x ∧ Own wr w.heap.size v (triL r f k) ∧ Below w.heap.size w wr) (fun _ i _ => (r + f - intOf i).toNat)
    case atStart => exact ⟨0, 1, by rfl, by omega, by omega, rfl, triL_zero r f ▸ Own.nil _ _, Below.refl _ _⟩
    case round =>
      obtain ⟨k, x, hx, hx0, hx1, rfl, hown, hbe⟩ := hrel
      by_cases hlt : x < r + f
      · obtain ⟨b1, b2, b3, b4⟩ := tri_bd hr0 hr hf0 hf hx0 hlt
        have HO := Lib.hid hown
        have HB := Lib.hid hbe
        clear hown hbe
        by_cases hm : (r + f - x) * r < x * f
        · go_wp2_with (at_builtin; refine wpList_append_int _ w.heap.size _ (triL r f k) ((r + f - x) * r) rfl _ _ rfl rfl rfl HO.out HB.out.size (by rw [triL_length]; have := hx.out; omega) (by omega) ?_)
          intro v' w1 ho hb
          have R := Lib.hid (tri_step HO.out HB.out ho hb hx.out (by unfold triE; omega))
          clear ho hb HO HB
          go_wp2
          go_roundw
          case rel => exact ⟨k + 1, x + 1, Lib.hid (by have := hx.out; omega), by omega, by omega, rfl, R.out⟩
          case measure => simp [intOf]; omega
        · go_wp2_with (at_builtin; refine wpList_append_int _ w.heap.size _ (triL r f k) (x * f) rfl _ _ rfl rfl rfl HO.out HB.out.size (by rw [triL_length]; have := hx.out; omega) (by omega) ?_)
          intro v' w1 ho hb
          have R := Lib.hid (tri_step HO.out HB.out ho hb hx.out (by unfold triE; omega))
          clear ho hb HO HB
          go_wp2
          go_roundw
          case rel => exact ⟨k + 1, x + 1, Lib.hid (by have := hx.out; omega), by omega, by omega, rfl, R.out⟩
          case measure => simp [intOf]; omega
      · have hk : k = (r + f - 1).toNat := by have := hx.out; omega
        subst hk
        have HO := Lib.hid hown
        have HB := Lib.hid hbe
        clear hown hbe
        go_wp2
        go_returns
        rw [← HV.out]
        exact RetL.own HO.out HB.out
  · rw [if_neg hok] at hV
    have HV := Lib.hid hV
    clear hV
    unfold triOk at hok
    by_cases n1 : r < 1
    · go_enter Try.func13, Try.ntmps13
      go_wp2
      go_returns
      rw [← HV.out]
      exact RetL.none_ (Below.refl _ _)
    · by_cases n2 : 500 < r
      · go_enter Try.func13, Try.ntmps13
        go_wp2
        go_returns
        rw [← HV.out]
        exact RetL.none_ (Below.refl _ _)
      · by_cases n3 : f < 1
        · go_enter Try.func13, Try.ntmps13
          go_wp2
          go_returns
          rw [← HV.out]
          exact RetL.none_ (Below.refl _ _)
        · have n4 : 500 < f := by omega
          clear hok
          go_enter Try.func13, Try.ntmps13
          go_wp2
          go_returns
          rw [← HV.out]
          exact RetL.none_ (Below.refl _ _)

theorem tri_lo {r f i : Int} (hf0 : 1 ≤ f) (hr0 : 1 ≤ r) (h : i ≤ r) : triE r f i = i * f := by
  have h1 : 0 ≤ (r - i) * (r + f) := Int.mul_nonneg (by omega) (by omega)
  have h2 : (r + f - i) * r = (r - i) * (r + f) + i * f := by rw [Int.sub_mul, Int.add_mul, Int.mul_add, Int.sub_mul, Int.sub_mul, Int.mul_comm f r]; omega
  unfold triE; omega
theorem tri_hi {r f i : Int} (hf0 : 1 ≤ f) (hr0 : 1 ≤ r) (h : ¬ i ≤ r) : triE r f i = (r + f - i) * r := by
  have h1 : 0 ≤ (i - r) * (r + f) := Int.mul_nonneg (by omega) (by omega)
  have h2 : i * f = (i - r) * (r + f) + (r + f - i) * r := by rw [Int.sub_mul (r + f), Int.add_mul, Int.mul_add, Int.sub_mul, Int.sub_mul, Int.mul_comm f r]; omega
  unfold triE; omega

set_option maxHeartbeats 1000000 in
theorem Triangle_ref (r f : Int) (w : World) :
    Calls Try.prog 14 #[.int .i64 r, .int .i64 f] w (RetL (TriV r f).1 (TriV r f).2 w) := by
  obtain ⟨V, hV⟩ : ∃ V, TriV r f = V := ⟨_, rfl⟩
  rw [hV]
  unfold TriV at hV
  by_cases hok : triOk r f
  · rw [if_pos hok] at hV
    have HV := Lib.hid hV
    clear hV
    obtain ⟨hr0, hr, hf0, hf⟩ := hok
    have n1 : ¬ r < 1 := by omega
    have n2 : ¬ 500 < r := by omega
    have n3 : ¬ f < 1 := by omega
    have n4 : ¬ 500 < f := by omega
    go_enter Try.func14, Try.ntmps14
    go_wp2
    go_loopw [6, 7] (fun v i wr => ∃ (k : Nat) (x : Int), Hid (x = k + 1) ∧ 1 ≤ x ∧ x ≤ r + f ∧ i = .int .i64 x ∧ Own wr w.heap.size v (triL r f k) ∧ Below w.heap.size w wr) (fun _ i _ => (r + f - intOf i).toNat)
    case atStart => exact ⟨0, 1, by rfl, by omega, by omega, rfl, triL_zero r f ▸ Own.nil _ _, Below.refl _ _⟩
    case round =>
      obtain ⟨k, x, hx, hx0, hx1, rfl, hown, hbe⟩ := hrel
      by_cases hlt : x < r + f
      · obtain ⟨b1, b2, b3, b4⟩ := tri_bd hr0 hr hf0 hf hx0 hlt
        have HO := Lib.hid hown
        have HB := Lib.hid hbe
        clear hown hbe
        by_cases hm : x ≤ r
        · go_wp2_with (at_builtin; refine wpList_append_int _ w.heap.size _ (triL r f k) (x * f) rfl _ _ rfl rfl rfl HO.out HB.out.size (by rw [triL_length]; have := hx.out; omega) (by omega) ?_)
          intro v' w1 ho hb
          have R := Lib.hid (tri_step HO.out HB.out ho hb hx.out (tri_lo hf0 hr0 (by omega)))
          clear ho hb HO HB
          go_wp2
          go_roundw
          case rel => exact ⟨k + 1, x + 1, Lib.hid (by have := hx.out; omega), by omega, by omega, rfl, R.out⟩
          case measure => simp [intOf]; omega
        · go_wp2_with (at_builtin; refine wpList_append_int _ w.heap.size _ (triL r f k) ((r + f - x) * r) rfl _ _ rfl rfl rfl HO.out HB.out.size (by rw [triL_length]; have := hx.out; omega) (by omega) ?_)
          intro v' w1 ho hb
          have R := Lib.hid (tri_step HO.out HB.out ho hb hx.out (tri_hi hf0 hr0 (by omega)))
          clear ho hb HO HB
          go_wp2
          go_roundw
          case rel => exact ⟨k + 1, x + 1, Lib.hid (by have := hx.out; omega), by omega, by omega, rfl, R.out⟩
          case measure => simp [intOf]; omega
      · have hk : k = (r + f - 1).toNat := by have := hx.out; omega
        subst hk
        have HO := Lib.hid hown
        have HB := Lib.hid hbe
        clear hown hbe
        go_wp2
        go_returns
        rw [← HV.out]
        exact RetL.own HO.out HB.out
  · rw [if_neg hok] at hV
    have HV := Lib.hid hV
    clear hV
    unfold triOk at hok
    by_cases n1 : r < 1
    · go_enter Try.func14, Try.ntmps14
      go_wp2
      go_returns
      rw [← HV.out]
      exact RetL.none_ (Below.refl _ _)
    · by_cases n2 : 500 < r
      · go_enter Try.func14, Try.ntmps14
        go_wp2
        go_returns
        rw [← HV.out]
        exact RetL.none_ (Below.refl _ _)
      · by_cases n3 : f < 1
        · go_enter Try.func14, Try.ntmps14
          go_wp2
          go_returns
          rw [← HV.out]
          exact RetL.none_ (Below.refl _ _)
        · have n4 : 500 < f := by omega
          clear hok
          go_enter Try.func14, Try.ntmps14
          go_wp2
          go_returns
          rw [← HV.out]
          exact RetL.none_ (Below.refl _ _)
end Go.Proofs.Ytlkocedhhdknoaa
