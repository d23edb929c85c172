/- Add of the reference; Peak of both; Lag and Add of both at any arguments. -/
import Derived.Test.YtlkocedhhdknoaaAdd
namespace Go.Proofs.Ytlkocedhhdknoaa
open Go.RowKit
set_option linter.unusedVariables false

theorem at_ref {A : Option Addr} {n c : Nat} {zs : List Int} (k : Nat) (hk : k ≤ 1000000) (w : World) (h : Ints w A n c zs) :
    Calls Try.prog 54 #[.slice A n c, .int .i64 k] w fun e w' => e = .returned (.int .i64 (el zs k)) ∧ w = w' := by
  have hcap := h.cap
  have hmax := h.max
  by_cases hlt : k < n
  · obtain ⟨ad, hA, hl, hc⟩ := h.at_ hlt
    subst hA
    clear h
    generalize el zs k = x at *
    go_enter Try.func54, Try.ntmps54
    go_wp2
    go_ret
    exact ⟨rfl, rfl⟩
  · rw [el_out (by rw [h.len]; omega)]
    clear h
    go_enter Try.func54, Try.ntmps54
    go_wp2
    go_ret
    exact ⟨rfl, rfl⟩

theorem add_step {w1 : World} {B : Nat} {v : Value} {a b : List Int} {k : Nat} {x : Int} (h : Own w1 B v (fl k (addF a b) ++ [x])) (hx : x = addF a b k) : Own w1 B v (fl (k + 1) (addF a b)) := by
  rw [fl_succ, ← hx]; exact h

set_option maxHeartbeats 1000000 in
theorem Add_inR {A A' : Option Addr} {n c n' c' : Nat} {xs ys : List Int} (w : World) (h : Ints w A n c xs) (h' : Ints w A' n' c' ys) (hx : seriesB xs = true) (hy : seriesB ys = true) :
    Calls Try.prog 38 #[.slice A n c, .slice A' n' c'] w (RetL (addR xs ys).1 (addR xs ys).2 w) := by
  obtain ⟨V, hV⟩ : ∃ V, addR xs ys = V := ⟨_, rfl⟩
  rw [hV]
  unfold addR at hV
  have HV0 := Lib.hid hV
  have H := Lib.hid h
  have H' := Lib.hid h'
  have HL := Lib.hid h.len
  have HL' := Lib.hid h'.len
  have hcap := h.cap
  have hmax := h.max
  have hcap' := h'.cap
  have hmax' := h'.max
  have HX := Lib.hid hx
  have HY := Lib.hid hy
  have hn1 := (series_parts hx).1
  have hn2 := (series_parts hy).1
  rw [h.len] at hn1
  rw [h'.len] at hn2
  have s1 := Series_ref w h
  rw [hx] at s1
  have S1 := Lib.hid s1
  have s2 := Series_ref w h'
  rw [hy] at s2
  have S2 := Lib.hid s2
  clear s1 s2 hV h h' hx hy
  go_enter Try.func38, Try.ntmps38
  go_wp2_with fail
  refine S1.out.mono ?_
  rintro e w1 ⟨rfl, rfl⟩
  go_wp2_with fail
  refine S2.out.mono ?_
  rintro e w1 ⟨rfl, rfl⟩
  go_wp2
  go_loopw [6, 7] (fun v i wr => ∃ k : Nat, k ≤ max n n' ∧ i = .int .i64 k ∧ Own wr w.heap.size v (fl k (addF xs ys)) ∧ Below w.heap.size w wr ∧ ∀ m, m < k → addF xs ys m ≤ 1125899906842624) (fun _ i _ => max n n' - (intOf i).toNat)
  case atStart => exact ⟨0, Nat.zero_le _, rfl, Own.nil _ _, Below.refl _ _, fun m hm => absurd hm (by omega)⟩
  case round =>
    obtain ⟨k, hk, rfl, hown, hbe, hno⟩ := hrel
    have HNO := Lib.hid hno
    have HO := Lib.hid hown
    have HB := Lib.hid hbe
    have a1 := at_ref k (by omega) wr (H.out.below hbe)
    have a2 := at_ref k (by omega) wr (H'.out.below hbe)
    have r1 := vol_bd HX.out k
    have r2 := vol_bd HY.out k
    have HE : Hid (addF xs ys k = el xs k + el ys k) := Lib.hid rfl
    have HS : Hid (el xs k + el ys k ≤ 1125899906842624 → ∀ m, m < k + 1 → addF xs ys m ≤ 1125899906842624) := Lib.hid fun hle m hm => by
      by_cases hmk : m = k
      · subst hmk; exact hle
      · exact HNO.out m (by omega)
    have HT : Hid (k < max n n' → 1125899906842624 < el xs k + el ys k → inB 1125899906842624 (addL xs ys) = false) := Lib.hid fun hlt hbig => add_bad (m := k) (by rw [HL.out, HL'.out]; exact hlt) hbig
    have A1 := Lib.hid a1
    have A2 := Lib.hid a2
    obtain ⟨r10, r11⟩ := r1
    obtain ⟨r20, r21⟩ := r2
    clear hown hbe hno a1 a2
    generalize el xs k = x at *
    generalize el ys k = y at *
    by_cases hlt : k < max n n'
    · have hc : (k < n) ∨ (¬ k < n ∧ k < n') := by omega
      have HLT := Lib.hid hlt
      clear hlt
      rcases hc with h1 | ⟨h1, h2⟩
      all_goals
        go_wp2_with fail
        refine A1.out.mono ?_
        rintro e w1 ⟨rfl, rfl⟩
        go_wp2_with fail
        refine A2.out.mono ?_
        rintro e w1 ⟨rfl, rfl⟩
        by_cases hbig : 1125899906842624 < x + y
        · go_wp2
          go_returns
          have := HV0.out
          rw [HT.out HLT.out hbig, if_pos rfl] at this
          rw [← this]
          exact RetL.none_ HB.out
        · go_wp2_with (at_builtin; refine wpList_append_int _ w.heap.size _ (fl k (addF xs ys)) (x + y) rfl _ _ rfl rfl rfl HO.out HB.out.size (by rw [fl_length]; have := HLT.out; omega) (by omega) ?_)
          intro v' w2 ho hb
          have R1 := Lib.hid (add_step ho HE.out.symm)
          have R2 := Lib.hid (HB.out.trans hb)
          clear ho hb
          go_wp2
          go_roundw
          case rel => exact ⟨k + 1, by have := HLT.out; omega, by go_num, R1.out, R2.out, HS.out (by omega)⟩
          case measure => have := HLT.out; simp [intOf]; try omega
    · have hkm : k = max n n' := by omega
      have h1 : ¬ k < n := by omega
      have h2 : ¬ k < n' := by omega
      have HK := Lib.hid hkm
      have HNO2 := Lib.hid HNO.out
      clear hkm hlt hk
      go_wp2
      go_returns
      have := HV0.out
      rw [add_ok HX.out HY.out (fun m hm => by have := HNO.out m (by rw [HK.out]; rw [HL.out, HL'.out] at hm; exact hm); omega), if_neg (by decide)] at this
      rw [← this]
      unfold addL
      rw [HL.out, HL'.out, ← HK.out]
      exact RetL.own HO.out HB.out

theorem pkI_step (zs : List Int) {q : Nat} (h : 1 ≤ q) : pkI zs q = if el zs (pkI zs (q - 1)) < el zs q then q else pkI zs (q - 1) := by
  obtain ⟨k, rfl⟩ : ∃ k, q = k + 1 := ⟨q - 1, by omega⟩
  rfl
/-- What Peak hands back. -/
def Ret3 (a b c : Int) (w : World) (e : Ending) (w' : World) : Prop := e = .returned (.tuple #[.int .i64 a, .int .i64 b, .int .i64 c]) ∧ Below w.heap.size w w'

set_option maxHeartbeats 600000 in
theorem Max_calls {A : Option Addr} {n c : Nat} {zs : List Int} (w : World) (h : Ints w A n c zs) (hn : 0 < n) :
    Calls Try.prog 45 #[.slice A n c] w fun e w' => e = .returned (.int .i64 (el zs (pkI zs (n - 1)))) ∧ w = w' := by
  obtain ⟨r, hr⟩ : ∃ r, el zs (pkI zs (n - 1)) = r := ⟨_, rfl⟩
  rw [hr]
  have HR := Lib.hid hr
  have H := Lib.hid h
  have hcap := h.cap
  have hmax := h.max
  obtain ⟨ad, hA, hl, hc⟩ := h.at_ hn
  subst hA
  rw [Addr.add_zero'] at hc
  have HE : Hid (el zs 0 = el zs (pkI zs 0)) := Lib.hid rfl
  have p0 : (0 : Int) < n := by omega
  clear h hr
  generalize hz : el zs 0 = z0 at *
  have HZ := Lib.hid hz
  clear hz
  go_enter Try.func45, Try.ntmps45
  go_wp2
  clear hc
  go_loop [3, 4] (fun m i => ∃ (q : Nat) (x : Int), 1 ≤ q ∧ q ≤ n ∧ i = .int .i64 q ∧ m = .int .i64 x ∧ Hid (x = el zs (pkI zs (q - 1)))) (fun _ i => n - (intOf i).toNat)
  case atStart => exact ⟨1, z0, Nat.le_refl _, by omega, rfl, rfl, HE⟩
  case round =>
    obtain ⟨q, x, hq1, hq, rfl, rfl, hx⟩ := hrel
    by_cases hlt : q < n
    · obtain ⟨ad2, hA, hl2, hc⟩ := H.out.at_ hlt
      injection hA with hA
      subst hA
      have HS := Lib.hid (pkI_step zs hq1)
      rw [← hx.out] at HS
      by_cases hm : x < el zs q
      · have HN : Hid (el zs q = el zs (pkI zs (q + 1 - 1))) := Lib.hid (by rw [Nat.add_sub_cancel, HS.out, if_pos hm])
        generalize el zs q = y at *
        go_wp2
        go_round
        case rel => exact ⟨q + 1, y, by omega, by omega, by go_num, rfl, HN⟩
        case measure => simp [intOf]; try omega
      · have HN : Hid (x = el zs (pkI zs (q + 1 - 1))) := Lib.hid (by rw [Nat.add_sub_cancel, HS.out, if_neg hm]; exact hx.out)
        generalize el zs q = y at *
        go_wp2
        go_round
        case rel => exact ⟨q + 1, x, by omega, by omega, by go_num, rfl, HN⟩
        case measure => simp [intOf]; try omega
    · have hkn : q = n := by omega
      have HX : Hid (x = r) := Lib.hid (by rw [hx.out, hkn]; exact HR.out)
      clear hkn
      go_wp2
      go_ret
      exact ⟨ret_i HX.out, rfl⟩

set_option maxHeartbeats 600000 in
theorem Index_calls {A : Option Addr} {n c : Nat} {zs : List Int} (m : Int) (i : Nat) (w : World) (h : Ints w A n c zs) (hi : i < n) (he : el zs i = m) (hf : ∀ j, j < i → ¬ el zs j = m) :
    Calls Try.prog 46 #[.slice A n c, .int .i64 m] w fun e w' => e = .returned (.int .i64 i) ∧ w = w' := by
  have H := Lib.hid h
  have hcap := h.cap
  have hmax := h.max
  have HE := Lib.hid he
  have HF := Lib.hid hf
  have HI := Lib.hid hi
  clear h he hf
  go_enter Try.func46, Try.ntmps46
  go_wp2
  go_loop [8] (fun x => ∃ k : Nat, k ≤ i ∧ x = .int .i64 k) (fun x => n - (intOf x).toNat)
  case atStart => exact ⟨0, Nat.zero_le _, rfl⟩
  case round =>
    obtain ⟨k, hk, rfl⟩ := hrel
    obtain ⟨ad, hA, hl, hc⟩ := H.out.at_ (show k < n by omega)
    subst hA
    have hkn : (k : Int) < n := by omega
    by_cases hki : k = i
    · have heq : ((m : Int) == el zs k) = true := by rw [beq_iff_eq, hki]; exact HE.out.symm
      have HK : Hid (k = i) := Lib.hid hki
      clear hki
      generalize el zs k = y at *
      go_wp2
      go_ret
      exact ⟨ret_i (by rw [HK.out]), rfl⟩
    · have hne := HF.out k (by omega)
      have heq : ((m : Int) == el zs k) = false := by rw [beq_eq_false_iff_ne]; exact fun e => hne e.symm
      clear hne hki
      have hki2 : k < i := by
        rcases Nat.lt_or_ge k i with h | h
        · exact h
        · exfalso
          have : k = i := by omega
          rw [this, HE.out] at heq
          simp at heq
      generalize el zs k = y at *
      go_wp2
      go_round
      case rel => exact ⟨k + 1, by omega, by go_num⟩
      case measure => simp [intOf]; try omega

set_option maxHeartbeats 600000 in
theorem Peak_calls {A : Option Addr} {n c : Nat} {zs : List Int} (w : World) (h : Ints w A n c zs) :
    Calls Try.prog 30 #[.slice A n c] w (Ret3 (PeakV zs).1 (PeakV zs).2.1 (PeakV zs).2.2 w) := by
  obtain ⟨V, hV⟩ : ∃ V, PeakV zs = V := ⟨_, rfl⟩
  rw [hV]
  unfold PeakV at hV
  rw [h.len] at hV
  have H := Lib.hid h
  have s := series_calls w h
  cases hs : seriesB zs
  · rw [hs, if_pos rfl] at hV
    rw [hs] at s
    have S := Lib.hid s
    have HV := Lib.hid hV
    clear s h hV hs
    go_enter Try.func30, Try.ntmps30
    go_wp2_with fail
    refine S.out.mono ?_
    rintro e w1 ⟨rfl, b1⟩
    go_wp2
    go_returns
    rw [← HV.out]
    exact ⟨rfl, b1⟩
  · rw [hs, if_neg (by decide)] at hV
    rw [hs] at s
    have S := Lib.hid s
    by_cases hn : n = 0
    · rw [if_pos hn] at hV
      have HV := Lib.hid hV
      have hn' : ((n : Int) == 0) = true := by rw [beq_iff_eq]; omega
      clear s h hV hs hn
      go_enter Try.func30, Try.ntmps30
      go_wp2_with fail
      refine S.out.mono ?_
      rintro e w1 ⟨rfl, b1⟩
      go_wp2
      go_returns
      rw [← HV.out]
      exact ⟨rfl, b1⟩
    · rw [if_neg hn] at hV
      have HV := Lib.hid hV
      have hn' : ((n : Int) == 0) = false := by rw [beq_eq_false_iff_ne]; omega
      have mc := fun W I => Max_calls (A := A) (n := n) (c := c) (zs := zs) W I (by omega)
      have ic := fun W I => Index_calls (A := A) (n := n) (c := c) (zs := zs) (el zs (pkI zs (n - 1))) (pkI zs (n - 1)) W I (by have := pkI_le zs (n - 1); omega) rfl (fun j hj => by have := pkI_first zs (n - 1) j hj; omega)
      generalize el zs (pkI zs (n - 1)) = m at *
      generalize pkI zs (n - 1) = i at *
      have MC := Lib.hid mc
      have IC := Lib.hid ic
      clear s h hV hs hn mc ic
      go_enter Try.func30, Try.ntmps30
      go_wp2_with fail
      refine S.out.mono ?_
      rintro e w1 ⟨rfl, b1⟩
      have B1 := Lib.hid b1
      clear b1
      go_wp2_with fail
      refine (MC.out _ (H.out.below B1.out)).mono ?_
      rintro e w2 ⟨rfl, rfl⟩
      go_wp2_with fail
      refine (IC.out _ (H.out.below B1.out)).mono ?_
      rintro e w2 ⟨rfl, rfl⟩
      go_wp2
      go_returns
      rw [← HV.out]
      exact ⟨rfl, B1.out⟩

set_option maxHeartbeats 600000 in
theorem Peak_ref {A : Option Addr} {n c : Nat} {zs : List Int} (w : World) (h : Ints w A n c zs) :
    Calls Try.prog 39 #[.slice A n c] w (Ret3 (PeakV zs).1 (PeakV zs).2.1 (PeakV zs).2.2 w) := by
  obtain ⟨V, hV⟩ : ∃ V, PeakV zs = V := ⟨_, rfl⟩
  rw [hV]
  unfold PeakV at hV
  rw [h.len] at hV
  have H := Lib.hid h
  have hcap := h.cap
  have hmax := h.max
  have s := Series_ref w h
  cases hs : seriesB zs
  · rw [hs, if_pos rfl] at hV
    rw [hs] at s
    have S := Lib.hid s
    have HV := Lib.hid hV
    clear s h hV hs
    go_enter Try.func39, Try.ntmps39
    go_wp2_with fail
    refine S.out.mono ?_
    rintro e w1 ⟨rfl, rfl⟩
    go_wp2
    go_returns
    rw [← HV.out]
    exact ⟨rfl, Below.refl _ _⟩
  · rw [hs, if_neg (by decide)] at hV
    rw [hs] at s
    have S := Lib.hid s
    by_cases hn : n = 0
    · rw [if_pos hn] at hV
      have HV := Lib.hid hV
      have hn' : ((n : Int) == 0) = true := by rw [beq_iff_eq]; omega
      clear s h hV hs hn
      go_enter Try.func39, Try.ntmps39
      go_wp2_with fail
      refine S.out.mono ?_
      rintro e w1 ⟨rfl, rfl⟩
      go_wp2
      go_returns
      rw [← HV.out]
      exact ⟨rfl, Below.refl _ _⟩
    · rw [if_neg hn] at hV
      have HV := Lib.hid hV
      have hn' : ((n : Int) == 0) = false := by rw [beq_eq_false_iff_ne]; omega
      have hn0 : 0 < n := by omega
      clear s h hV hs hn
      go_enter Try.func39, Try.ntmps39
      go_wp2_with fail
      refine S.out.mono ?_
      rintro e w1 ⟨rfl, rfl⟩
      go_wp2
      go_loopw [5, 6] (fun p i wr => ∃ (k q : Nat), 1 ≤ k ∧ k ≤ n ∧ q < k ∧ i = .int .i64 k ∧ p = .int .i64 q ∧ Hid (q = pkI zs (k - 1)) ∧ ∃ d, wr = w.drewN d) (fun _ i _ => n - (intOf i).toNat)
      case atStart => exact ⟨1, 0, Nat.le_refl _, by omega, by omega, rfl, rfl, by rfl, 0, rfl⟩
      case round =>
        obtain ⟨k, q, hk1, hk, hqk, rfl, rfl, hq, d, rfl⟩ := hrel
        by_cases hlt : k < n
        · obtain ⟨ad, hA, hl, hc⟩ := H.out.at_ hlt
          obtain ⟨ad2, hA2, hl2, hc2⟩ := H.out.at_ (show q < n by omega)
          rw [hA] at hA2
          injection hA2 with hA2
          subst hA2
          subst hA
          have HS := Lib.hid (pkI_step zs hk1)
          rw [← hq.out] at HS
          have e3 : (0 : Int) ≤ q := by omega
          have e4 : (q : Int) < n := by omega
          have e5 : (0 : Int) ≤ k := by omega
          have e6 : (k : Int) < n := by omega
          by_cases hm : el zs q < el zs k
          · have HN : Hid (k = pkI zs (k + 1 - 1)) := Lib.hid (by rw [Nat.add_sub_cancel, HS.out, if_pos hm])
            generalize el zs k = y at *
            generalize el zs q = x at *
            go_wp2
            go_quiet (fail)
            go_wp2
            go_roundw
            case rel => exact ⟨k + 1, k, by omega, by omega, by omega, by go_num, rfl, HN, _, rfl⟩
            case measure => simp [intOf]; try omega
          · have HN : Hid (q = pkI zs (k + 1 - 1)) := Lib.hid (by rw [Nat.add_sub_cancel, HS.out, if_neg hm])
            generalize el zs k = y at *
            generalize el zs q = x at *
            go_wp2
            go_quiet (fail)
            go_wp2
            go_roundw
            case rel => exact ⟨k + 1, q, by omega, by omega, by omega, by go_num, rfl, HN, _, rfl⟩
            case measure => simp [intOf]; try omega
        · have hkn : k = n := by omega
          obtain ⟨ad2, hA2, hl2, hc2⟩ := H.out.at_ (show q < n by omega)
          subst hA2
          have HQ : Hid ((el zs q, (q : Int), (0 : Int)) = V) := Lib.hid (by rw [← HV.out, hq.out, hkn])
          clear hkn
          generalize el zs q = x at *
          go_wp2
          go_returns
          rw [← HQ.out]
          exact ⟨rfl, below_drewN (Below.refl _ _) _⟩
end Go.Proofs.Ytlkocedhhdknoaa
