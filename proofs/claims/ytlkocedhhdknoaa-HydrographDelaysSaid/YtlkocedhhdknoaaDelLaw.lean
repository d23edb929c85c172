/- A delay before is a delay after; the convolution of a sum. No program in sight. -/
import Derived.Test.YtlkocedhhdknoaaLosesLaw
import Derived.Test.YtlkocedhhdknoaaSeriesLaw
namespace Go.Proofs.Ytlkocedhhdknoaa
set_option linter.unusedVariables false

theorem lagL_length (a : List Int) (k : Nat) : (lagL a k).length = k + a.length := by unfold lagL; rw [List.length_append, fl_length]
theorem el_lag (a : List Int) (k i : Nat) : el (lagL a k) i = if i < k then 0 else el a (i - k) := by
  unfold lagL el
  rw [List.getD_eq_getElem?_getD, List.getD_eq_getElem?_getD]
  by_cases h : i < k
  · rw [if_pos h, List.getElem?_append_left (by rw [fl_length]; exact h)]
    simp [fl, h]
  · rw [if_neg h, List.getElem?_append_right (by rw [fl_length]; omega), fl_length]
theorem el_lag_lt {a : List Int} {k i : Nat} (h : i < k) : el (lagL a k) i = 0 := by rw [el_lag, if_pos h]
theorem el_lag_ge {a : List Int} {k i : Nat} (h : ¬ i < k) : el (lagL a k) i = el a (i - k) := by rw [el_lag, if_neg h]
theorem inB_lag {m : Int} (hm : 0 ≤ m) (a : List Int) (k : Nat) : inB m (lagL a k) = inB m a := by
  rw [Bool.eq_iff_iff, inB_iff, inB_iff]
  constructor
  · intro h z hz
    exact h z (by unfold lagL; exact List.mem_append_right _ hz)
  · intro h z hz
    unfold lagL at hz
    rcases List.mem_append.1 hz with hz | hz
    · obtain ⟨_, _, rfl⟩ := fl_mem hz; omega
    · exact h z hz
theorem series_lag {a : List Int} (h : seriesB a = true) {k : Nat} (hk : k + a.length ≤ 10000) : seriesB (lagL a k) = true := by
  have h1 := (series_parts h).2
  unfold seriesB
  rw [inB_lag (by omega), h1, lagL_length, decide_eq_true hk]; rfl
theorem cv_zeros (a us : List Int) (k j m : Nat) (hj : j ≤ k) : cvF (lagL a k) us j m = 0 := by
  induction j with
  | zero => rfl
  | succ j ih =>
    rw [cvF, ih (by omega), el_lag_lt (by omega)]
    split
    · rw [shF_zero]; rfl
    · rfl
theorem cv_lag (a us : List Int) (k i m : Nat) : cvF (lagL a k) us (k + i) m = if m < k then 0 else cvF a us i (m - k) := by
  induction i with
  | zero => rw [Nat.add_zero, cv_zeros _ _ _ _ _ (Nat.le_refl k)]; split <;> rfl
  | succ i ih =>
    rw [← Nat.add_assoc, cvF, ih, el_lag_ge (by omega), show k + i - k = i by omega]
    by_cases h : m < k
    · rw [if_pos h, if_pos h, if_neg (by omega), Int.add_zero]
    · rw [if_neg h, if_neg h, cvF]
      by_cases h2 : i ≤ m - k ∧ m - k < i + us.length
      · rw [if_pos h2, if_pos (by omega), show m - (k + i) = m - k - i by omega]
      · rw [if_neg h2, if_neg (by omega)]
theorem cvL_lag {a us : List Int} {k : Nat} (ha : 0 < a.length) : cvL (lagL a k) us = lagL (cvL a us) k := by
  apply ext_el
  · rw [cvL_length, lagL_length, lagL_length, cvL_length]; omega
  · intro m hm
    rw [cvL_length, lagL_length] at hm
    have e : el (cvL (lagL a k) us) m = cvF (lagL a k) us (lagL a k).length m := el_fl _ (by rw [lagL_length]; exact hm)
    rw [e, lagL_length, cv_lag, el_lag]
    by_cases h : m < k
    · rw [if_pos h, if_pos h]
    · rw [if_neg h, if_neg h]
      have e2 : el (cvL a us) (m - k) = cvF a us a.length (m - k) := el_fl _ (by omega)
      rw [e2]
theorem conv_sizes {a us : List Int} (h : ConvOk a us) (h1 : a.length ≤ 200) (h2 : us.length ≤ 40) : ConvV a us = if a.length = 0 then ([], 0) else cvR a us := by
  unfold ConvV
  rw [if_neg (by rw [h.v, h.u]; decide)]
  by_cases hn : a.length = 0
  · rw [if_pos hn, if_pos hn]
  · rw [if_neg hn, if_neg hn, if_neg (by omega)]
theorem cvL_nil_lag (us : List Int) (k : Nat) : inB 1125899906842624 (cvL (lagL [] k) us) = true := by
  apply in_all
  intro m hm
  rw [cvL_length, lagL_length] at hm
  have e : el (cvL (lagL [] k) us) m = cvF (lagL [] k) us (lagL [] k).length m := el_fl _ (by rw [lagL_length]; exact hm)
  rw [e, lagL_length]
  simp only [List.length_nil, Nat.add_zero]
  rw [cv_zeros _ _ _ _ _ (Nat.le_refl k)]; rfl
/-- The errors are the same; and the lists, delayed. -/
theorem delay {a us : List Int} {k : Nat} (h : ConvOk a us) (h1 : a.length ≤ 40) (h2 : us.length ≤ 30) (hk : k ≤ 40) :
    ((ConvV a us).2 = 0 ∨ (ConvV a us).2 = 5) ∧ (ConvV (lagL a k) us).2 = (ConvV a us).2 ∧ ((ConvV a us).2 = 0 → 0 < a.length → (ConvV (lagL a k) us).1 = lagL (ConvV a us).1 k) := by
  have hser := series_lag h.v (k := k) (by omega)
  have hl := conv_sizes h (by omega) (by omega)
  have hl2 := conv_sizes (a := lagL a k) ⟨hser, h.u⟩ (by rw [lagL_length]; omega) (by omega)
  rw [lagL_length] at hl2
  by_cases hn : a.length = 0
  · have ha : a = [] := List.eq_nil_of_length_eq_zero hn
    rw [hl, if_pos hn, hl2]
    refine ⟨.inl rfl, ?_, fun _ h => by omega⟩
    by_cases hk0 : k + a.length = 0
    · rw [if_pos hk0]
    · rw [if_neg hk0]
      unfold cvR
      subst ha
      rw [cvL_nil_lag, if_neg (by decide)]
  · rw [hl, if_neg hn, hl2, if_neg (by omega)]
    unfold cvR
    rw [cvL_lag (by omega), inB_lag (by omega)]
    cases inB 1125899906842624 (cvL a us)
    · refine ⟨?_, ?_, ?_⟩ <;> simp
    · refine ⟨?_, ?_, ?_⟩ <;> simp
/-- A convolution that is no error is a series. -/
theorem conv_series {a us : List Int} (h : ConvOk a us) (h1 : a.length ≤ 200) (h2 : us.length ≤ 40) : seriesB (ConvV a us).1 = true ∧ (ConvV a us).1.length ≤ 300 := by
  rw [conv_sizes h h1 h2]
  by_cases hn : a.length = 0
  · rw [if_pos hn]; exact ⟨rfl, by simp⟩
  · rw [if_neg hn]
    unfold cvR
    cases hin : inB 1125899906842624 (cvL a us)
    · rw [if_pos rfl]; exact ⟨rfl, by simp⟩
    · rw [if_neg (by decide)]
      have hlen : (cvL a us).length = a.length + us.length - 1 := cvL_length _ _
      show seriesB (cvL a us) = true ∧ (cvL a us).length ≤ 300
      refine ⟨?_, by omega⟩
      unfold seriesB
      rw [hin, decide_eq_true (by omega)]; rfl

/-- Shares of a sum differ by one at most. -/
theorem div_add (x y : Int) {w : Int} (hw : 0 < w) : 0 ≤ (x + y) / w - x / w - y / w ∧ (x + y) / w - x / w - y / w ≤ 1 := by
  have h1 := Int.mul_ediv_add_emod x w
  have h2 := Int.mul_ediv_add_emod y w
  have h3 := Int.mul_ediv_add_emod (x + y) w
  have a1 := Int.emod_nonneg x (Int.ne_of_gt hw)
  have a2 := Int.emod_nonneg y (Int.ne_of_gt hw)
  have a3 := Int.emod_nonneg (x + y) (Int.ne_of_gt hw)
  have b1 := Int.emod_lt_of_pos x hw
  have b2 := Int.emod_lt_of_pos y hw
  have b3 := Int.emod_lt_of_pos (x + y) hw
  generalize x / w = p at *
  generalize y / w = q at *
  generalize (x + y) / w = s at *
  generalize x % w = r1 at *
  generalize y % w = r2 at *
  generalize (x + y) % w = r3 at *
  have e : w * (s - p - q) = r1 + r2 - r3 := by rw [Int.mul_sub, Int.mul_sub]; omega
  constructor
  · rcases Int.lt_or_le (s - p - q) 0 with h | h
    · have := Int.mul_le_mul_of_nonneg_left (show s - p - q ≤ -1 by omega) (Int.le_of_lt hw)
      omega
    · exact h
  · rcases Int.lt_or_le 1 (s - p - q) with h | h
    · have := Int.mul_le_mul_of_nonneg_left (show 2 ≤ s - p - q by omega) (Int.le_of_lt hw)
      omega
    · exact h
theorem sh_add (x y : Int) {us : List Int} (hw : 0 < sumL us) (k : Nat) : -1 ≤ shF x us k + shF y us k - shF (x + y) us k ∧ shF x us k + shF y us k - shF (x + y) us k ≤ 1 := by
  have h1 := div_add (x * sumF (el us) (k + 1)) (y * sumF (el us) (k + 1)) hw
  have h2 := div_add (x * sumF (el us) k) (y * sumF (el us) k) hw
  rw [← Int.add_mul] at h1 h2
  unfold shF
  omega
/-- How many volumes reach an element. -/
def reach (nu : Nat) (i m : Nat) : Nat := min i (m + 1) - (m + 1 - nu)
theorem reach_step (nu i m : Nat) : reach nu (i + 1) m = reach nu i m + if i ≤ m ∧ m < i + nu then 1 else 0 := by
  unfold reach
  split <;> omega
theorem reach_le (nu i m : Nat) : reach nu i m ≤ nu := by unfold reach; omega
theorem cv_add (a b us : List Int) (hw : 0 < sumL us) (i m : Nat) :
    -(reach us.length i m : Int) ≤ cvF a us i m + cvF b us i m - cvF (addL a b) us i m ∧ cvF a us i m + cvF b us i m - cvF (addL a b) us i m ≤ reach us.length i m ∨ max a.length b.length < i := by
  induction i with
  | zero => left; simp [cvF, reach]
  | succ i ih =>
    rcases ih with ih | ih
    · by_cases hi : i < max a.length b.length
      · left
        rw [reach_step, cvF, cvF, cvF]
        by_cases hc : i ≤ m ∧ m < i + us.length
        · rw [if_pos hc, if_pos hc, if_pos hc, if_pos hc]
          have e : el (addL a b) i = el a i + el b i := el_fl _ hi
          have h1 := sh_add (el a i) (el b i) hw (m - i)
          rw [e]
          omega
        · rw [if_neg hc, if_neg hc, if_neg hc, if_neg hc]; omega
      · right; omega
    · right; omega
theorem cv_more {a us : List Int} {i m : Nat} (h : a.length ≤ i) : cvF a us i m = cvF a us a.length m := by
  induction i with
  | zero => rw [show a.length = 0 by omega]
  | succ i ih =>
    by_cases hi : a.length = i + 1
    · rw [hi]
    · rw [cvF, ih (by omega), el_out (by omega)]
      split
      · rw [shF_zero, Int.add_zero]
      · rw [Int.add_zero]
theorem cv_beyond {a us : List Int} {i m : Nat} (h : i + us.length ≤ m + 1) (hu : 1 ≤ us.length) : cvF a us i m = 0 := by
  induction i with
  | zero => rfl
  | succ i ih => rw [cvF, ih (by omega), if_neg (by omega)]; rfl
/-- The list of a convolution that is no error; and its elements, behind its end too. -/
theorem conv_list {a us : List Int} (h : ConvOk a us) (h1 : a.length ≤ 200) (h2 : us.length ≤ 40) (he : (ConvV a us).2 = 0) :
    (ConvV a us).1.length = (if a.length = 0 then 0 else a.length + us.length - 1) ∧ (∀ m, el (ConvV a us).1 m = cvF a us a.length m) ∧ sumL (ConvV a us).1 = sumL a := by
  have hu := (valid_parts h.u).1
  rw [conv_sizes h h1 h2] at he ⊢
  by_cases hn : a.length = 0
  · rw [if_pos hn, if_pos hn]
    refine ⟨rfl, fun m => ?_, ?_⟩
    · rw [hn]; rfl
    · have : a = [] := List.eq_nil_of_length_eq_zero hn
      subst this; rfl
  · rw [if_neg hn] at he ⊢
    rw [if_neg hn]
    unfold cvR at he ⊢
    cases hin : inB 1125899906842624 (cvL a us)
    · rw [hin, if_pos rfl] at he; simp at he
    · rw [if_neg (by decide)]
      refine ⟨cvL_length _ _, fun m => ?_, sum_conv h (by omega)⟩
      by_cases hm : m < a.length + us.length - 1
      · exact el_fl _ hm
      · have hl : (cvL a us).length = a.length + us.length - 1 := cvL_length _ _
        show el (cvL a us) m = _
        rw [el_out (by omega), cv_beyond (by omega) hu]
theorem sum_add {a b : List Int} : sumL (addL a b) = sumL a + sumL b := by
  have key : ∀ (zs : List Int) (n : Nat), zs.length ≤ n → sumF (el zs) n = sumL zs := fun zs n => by
    induction n with
    | zero => intro h; have : zs = [] := List.eq_nil_of_length_eq_zero (by omega); subst this; rfl
    | succ n ih =>
      intro h
      by_cases hn : zs.length = n + 1
      · unfold sumL; rw [hn]
      · rw [sumF, ih (by omega), el_out (by omega), Int.add_zero]
  unfold sumL
  rw [addL_length, show sumF (el (addL a b)) (max a.length b.length) = sumF (fun m => el a m + el b m) (max a.length b.length) from sumF_congr (fun k hk => el_fl _ hk), sumF_add, key a _ (by omega), key b _ (by omega)]
  rfl
theorem add_v {a b : List Int} (ha : seriesB a = true) (hb : seriesB b = true) : AddV a b = addR a b := by
  unfold AddV; rw [if_neg (by rw [ha, hb]; decide)]
theorem add_list {a b : List Int} (ha : seriesB a = true) (hb : seriesB b = true) (he : (AddV a b).2 = 0) : (AddV a b).1 = addL a b ∧ inB 1125899906842624 (addL a b) = true := by
  rw [add_v ha hb] at he ⊢
  unfold addR at he ⊢
  cases hin : inB 1125899906842624 (addL a b)
  · rw [hin, if_pos rfl] at he; simp at he
  · rw [if_neg (by decide)]; exact ⟨rfl, rfl⟩
/-- The convolution of a sum. -/
theorem joint {a b us : List Int} (ha : ConvOk a us) (hb : ConvOk b us) (h1 : a.length ≤ 40) (h2 : b.length ≤ 40) (h3 : us.length ≤ 30)
    (e1 : (ConvV a us).2 = 0) (e2 : (AddV a b).2 = 0) (e3 : (ConvV b us).2 = 0) (e4 : (AddV (ConvV a us).1 (ConvV b us).1).2 = 0) (e5 : (ConvV (AddV a b).1 us).2 = 0) :
    (AddV (ConvV a us).1 (ConvV b us).1).1.length = (ConvV (AddV a b).1 us).1.length ∧ sumL (AddV (ConvV a us).1 (ConvV b us).1).1 = sumL (ConvV (AddV a b).1 us).1 ∧
      ∀ t, -(us.length : Int) ≤ el (AddV (ConvV a us).1 (ConvV b us).1).1 t - el (ConvV (AddV a b).1 us).1 t ∧ el (AddV (ConvV a us).1 (ConvV b us).1).1 t - el (ConvV (AddV a b).1 us).1 t ≤ us.length := by
  obtain ⟨s1, s2⟩ := add_list ha.v hb.v e2
  have hsum : seriesB (addL a b) = true := by unfold seriesB; rw [s2, addL_length, decide_eq_true (by omega)]; rfl
  have hok : ConvOk (addL a b) us := ⟨hsum, ha.u⟩
  have c1 := conv_list ha (by omega) (by omega) e1
  have c2 := conv_list hb (by omega) (by omega) e3
  rw [s1] at e5 ⊢
  have c3 := conv_list hok (by rw [addL_length]; omega) (by omega) e5
  have d1 := conv_series ha (by omega) (by omega)
  have d2 := conv_series hb (by omega) (by omega)
  obtain ⟨t1, t2⟩ := add_list d1.1 d2.1 e4
  rw [t1]
  generalize (ConvV a us).1 = x at *
  generalize (ConvV b us).1 = w at *
  generalize (ConvV (addL a b) us).1 = z at *
  have hu := (valid_parts ha.u).1
  have hw := (share_ok ha.u (t := 0) (by omega) (by omega)).s0
  rw [addL_length] at c3
  have hel : ∀ t, el (addL x w) t = el x t + el w t := fun t => by
    by_cases ht : t < max x.length w.length
    · exact el_fl _ ht
    · rw [el_out (by rw [addL_length]; omega), el_out (by omega), el_out (by omega)]; rfl
  refine ⟨?_, ?_, fun t => ?_⟩
  · rw [addL_length, c1.1, c2.1, c3.1]
    by_cases ha0 : a.length = 0
    · by_cases hb0 : b.length = 0
      · rw [if_pos ha0, if_pos hb0, if_pos (by omega)]; rfl
      · rw [if_pos ha0, if_neg hb0, if_neg (by omega)]; omega
    · by_cases hb0 : b.length = 0
      · rw [if_neg ha0, if_pos hb0, if_neg (by omega)]; omega
      · rw [if_neg ha0, if_neg hb0, if_neg (by omega)]; omega
  · rw [sum_add, c1.2.2, c2.2.2, c3.2.2, sum_add]
  · rw [hel, c1.2.1, c2.2.1, c3.2.1]
    have k := cv_add a b us hw (max a.length b.length) t
    rw [cv_more (a := a) (i := max a.length b.length) (by omega), cv_more (a := b) (i := max a.length b.length) (by omega)] at k
    have hr := reach_le us.length (max a.length b.length) t
    rcases k with k | k
    · omega
    · omega
end Go.Proofs.Ytlkocedhhdknoaa
