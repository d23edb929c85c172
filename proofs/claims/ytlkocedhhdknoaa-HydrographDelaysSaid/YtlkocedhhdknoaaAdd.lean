/- Add, Peak of the program and of the reference. -/
import Derived.Test.YtlkocedhhdknoaaLag
import Derived.Deep.QuietTactic
import Derived.BigQuiet
namespace Go.Proofs.Ytlkocedhhdknoaa
open Go.RowKit
set_option linter.unusedVariables false

theorem ad_rng {a b : List Int} (ha : seriesB a = true) (hb : seriesB b = true) (k m : Nat) : 0 ≤ adF a b k m ∧ adF a b k m ≤ 2251799813685248 := by
  have h1 := vol_bd ha m
  have h2 := vol_bd hb m
  unfold adF; split <;> omega


set_option maxHeartbeats 1000000 in
set_option maxRecDepth 100000 in
theorem Add_long {A A' : Option Addr} {n c n' c' : Nat} {xs ys : List Int} (w : World) (h : Ints w A n c xs) (h' : Ints w A' n' c' ys) (hx : seriesB xs = true) (hy : seriesB ys = true) (ho : n' ≤ n) :
    Calls Try.prog 32 #[.slice A n c, .slice A' n' c'] w (RetL (addR xs ys).1 (addR xs ys).2 w) := by
  obtain ⟨V, hV⟩ : ∃ V, addR xs ys = V := ⟨_, rfl⟩
  rw [hV]
  unfold addR at hV
  have HV0 := Lib.hid hV
  have H := Lib.hid h
  have H' := Lib.hid h'
  have HL := Lib.hid h.len
  have HL' := Lib.hid h'.len
  have hcap := h.cap
  have hmax := h.max
  have hcap' := h'.cap
  have hmax' := h'.max
  have HX := Lib.hid hx
  have HY := Lib.hid hy
  have hn1 := (series_parts hx).1
  have hn2 := (series_parts hy).1
  rw [h.len] at hn1
  rw [h'.len] at hn2
  have s1 := series_calls w h
  rw [hx] at s1
  have S1 := Lib.hid s1
  have t0 : ¬ (n : Int) < n' := by omega
  have HO := Lib.hid ho
  clear s1 hV h h' hx hy
  go_enter Try.func32, Try.ntmps32
  go_wp2_with fail
  refine S1.out.mono ?_
  rintro e w1 ⟨rfl, b1⟩
  have s2 := series_calls w1 (H'.out.below b1)
  rw [HY.out] at s2
  have S2 := Lib.hid s2
  have B1 := Lib.hid b1
  clear s2 b1
  go_wp2_with fail
  refine S2.out.mono ?_
  rintro e w2 ⟨rfl, b2⟩
  have B2 := Lib.hid (below_then B1.out b2 B1.out.size)
  have I := Lib.hid (H.out.below B2.out)
  have I' := Lib.hid (H'.out.below B2.out)
  have cl := Clone_calls w2 (I.out)
  have CL := Lib.hid cl
  clear b2 cl
  go_wp2_with fail
  refine CL.out.mono ?_
  rintro e w3 ⟨v, rfl, hv, b3⟩
  have B3 := Lib.hid (below_then B2.out b3 B2.out.size)
  have J := Lib.hid (H'.out.below B3.out)
  have HZ := Lib.hid B2.out.size
  by_cases hz : n = 0
  · have hy0 : n' = 0 := by have := HO.out; omega
    have hzx : xs = [] := List.eq_nil_of_length_eq_zero (by rw [HL.out]; exact hz)
    obtain ⟨A3, n3, c3, rfl, i3, g3⟩ := hv.ints
    rw [hzx] at i3
    have hn3 : n3 = 0 := by have := i3.len; simpa using this.symm
    subst hn3
    have wc := within_calls 1125899906842624 w3 i3
    rw [show inB 1125899906842624 ([] : List Int) = true from rfl] at wc
    have WC := Lib.hid wc
    have I3 := Lib.hid (i3.alloc (.cells #[.int .i64 1125899906842624] 3))
    have HG := Lib.hid g3
    have hy0' : (n' : Int) = 0 := by omega
    have HE : Hid (([], 0) = V) := Lib.hid (by
      have := HV0.out
      rw [show addL xs ys = [] from List.eq_nil_of_length_eq_zero (by rw [addL_length, HL.out, HL'.out]; omega)] at this
      rwa [show inB 1125899906842624 ([] : List Int) = true from rfl, if_neg (by decide)] at this)
    subst hy0
    clear wc hv i3 g3 b3 hzx hz hy0'
    go_wp2
    go_loop [28] (fun i => i = .int .i64 0) (fun _ => 0)
    case atStart => rfl
    case round =>
      subst hrel
      go_wp2_with fail
      refine WC.out.mono ?_
      rintro e w4 ⟨rfl, rfl⟩
      go_wp2
      go_returns
      rw [← HE.out]
      exact ⟨_, _, _, rfl, I3.out, B3.out.alloc B3.out.size _, fun ad e => by have := HG.out ad e; have := HZ.out; omega⟩
  · obtain ⟨g, q, rfl, hgB, hqc, hqm, hrow⟩ := hv.asRow (by rw [HL.out]; omega)
    rw [HL.out] at hqc hrow ⊢
    have HR := Lib.hid (hrow.congr (G := adF xs ys 0) (fun m _ => (adF_zero xs ys m).symm))
    have HFR : Hid (∀ ad, A' = some ad → 0 < n' → ad.block ≠ g) := Lib.hid fun ad e hp => by
      obtain ⟨ad', e', hl, _⟩ := I'.out.mem hp
      rw [e] at e'
      injection e' with e'
      subst e'
      omega
    have B3' := Lib.hid b3
    have HGB := Lib.hid hgB
    clear hv hrow b3 hz
    go_wp2
    go_loopw [28] (fun i wr => ∃ k : Nat, k ≤ n' ∧ i = .int .i64 k ∧ Row wr g n (adF xs ys k) ∧ Ints wr A' n' c' ys ∧ Below w2.heap.size w2 wr) (fun i _ => n' - (intOf i).toNat)
    case atStart => exact ⟨0, Nat.zero_le _, rfl, HR.out, J.out, B3'.out⟩
    case round =>
      obtain ⟨k, hk, rfl, hr, hi, hb⟩ := hrel
      have HB := Lib.hid hb
      by_cases hlt : k < n'
      · have co := hr.cell k (by have := HO.out; omega)
        have fo := hr.free k
        have r1 := ad_rng HX.out HY.out k k
        have r2 := vol_bd HY.out k
        have HF := Lib.hid ((hr.set k (adF xs ys k k + el ys k)).congr (G := adF xs ys (k + 1)) (fun q _ => adF_step xs ys k q))
        have HI := Lib.hid (hi.far (p := ⟨g, k, none⟩) (fun ad e => HFR.out ad e (by omega)) (.int .i64 (adF xs ys k k + el ys k)))
        obtain ⟨ad, hA, hl, hc⟩ := hi.at_ hlt
        subst hA
        have hkx : (k : Int) < n := by have := HO.out; omega
        obtain ⟨r10, r11⟩ := r1
        obtain ⟨r20, r21⟩ := r2
        clear hr hi hb
        generalize adF xs ys k k = a at *
        generalize el ys k = y at *
        go_wp2
        go_roundw
        case rel => exact ⟨k + 1, by omega, by go_num, HF.out, HI.out, HB.out.setCell (by simpa using HGB.out) _⟩
        case measure => simp [intOf]; try omega
      · obtain rfl : k = n' := by omega
        have hr' := hr.congr (G := addF xs ys) (fun m _ => by have := adF_all xs ys m; rwa [HL'.out] at this)
        have hI := hr'.ints hqc hqm (by omega) (fun m _ => by have h1 := vol_bd HX.out m; have h2 := vol_bd HY.out m; unfold addF; omega)
        rw [show fl n (addF xs ys) = addL xs ys from by unfold addL; rw [HL.out, HL'.out, Nat.max_eq_left (by have := HO.out; omega)]] at hI
        have wc := within_calls 1125899906842624 wr hI
        have WC := Lib.hid wc
        have HII := Lib.hid (hI.alloc (.cells #[.int .i64 1125899906842624] 3))
        have HB2 := Lib.hid ((below_then B2.out HB.out HZ.out).alloc (Nat.le_trans HZ.out HB.out.size) (.cells #[.int .i64 1125899906842624] 3))
        clear hr hi hb hr' hI wc
        cases hin : inB 1125899906842624 (addL xs ys)
        · have HV1 : Hid (([], 5) = V) := by have := HV0.out; rwa [hin, if_pos rfl] at this
          rw [hin] at WC
          clear hin
          go_wp2_with fail
          refine WC.out.mono ?_
          rintro e w' ⟨rfl, rfl⟩
          go_wp2
          go_returns
          rw [← HV1.out]
          exact RetL.none_ HB2.out
        · have HV1 : Hid ((addL xs ys, 0) = V) := by have := HV0.out; rwa [hin, if_neg (by decide)] at this
          rw [hin] at WC
          clear hin
          go_wp2_with fail
          refine WC.out.mono ?_
          rintro e w' ⟨rfl, rfl⟩
          go_wp2
          go_returns
          rw [← HV1.out]
          exact ⟨_, _, _, rfl, HII.out, HB2.out, fun ad e => by injection e with e; subst e; have := HZ.out; have := HGB.out; simp; omega⟩

set_option maxHeartbeats 1000000 in
set_option maxRecDepth 100000 in
theorem Add_short {A A' : Option Addr} {n c n' c' : Nat} {xs ys : List Int} (w : World) (h : Ints w A n c xs) (h' : Ints w A' n' c' ys) (hx : seriesB xs = true) (hy : seriesB ys = true) (ho : n < n') :
    Calls Try.prog 32 #[.slice A n c, .slice A' n' c'] w (RetL (addR ys xs).1 (addR ys xs).2 w) := by
  obtain ⟨V, hV⟩ : ∃ V, addR ys xs = V := ⟨_, rfl⟩
  rw [hV]
  unfold addR at hV
  have HV0 := Lib.hid hV
  have H := Lib.hid h
  have H' := Lib.hid h'
  have HL := Lib.hid h.len
  have HL' := Lib.hid h'.len
  have hcap := h.cap
  have hmax := h.max
  have hcap' := h'.cap
  have hmax' := h'.max
  have HX := Lib.hid hx
  have HY := Lib.hid hy
  have hn1 := (series_parts hx).1
  have hn2 := (series_parts hy).1
  rw [h.len] at hn1
  rw [h'.len] at hn2
  have s1 := series_calls w h
  rw [hx] at s1
  have S1 := Lib.hid s1
  have t0 : (n : Int) < n' := by omega
  have HO := Lib.hid ho
  clear s1 hV h h' hx hy
  go_enter Try.func32, Try.ntmps32
  go_wp2_with fail
  refine S1.out.mono ?_
  rintro e w1 ⟨rfl, b1⟩
  have s2 := series_calls w1 (H'.out.below b1)
  rw [HY.out] at s2
  have S2 := Lib.hid s2
  have B1 := Lib.hid b1
  clear s2 b1
  go_wp2_with fail
  refine S2.out.mono ?_
  rintro e w2 ⟨rfl, b2⟩
  have B2 := Lib.hid (below_then B1.out b2 B1.out.size)
  have I := Lib.hid (H.out.below B2.out)
  have I' := Lib.hid (H'.out.below B2.out)
  have cl := Clone_calls w2 (I'.out)
  have CL := Lib.hid cl
  clear b2 cl
  go_wp2_with fail
  refine CL.out.mono ?_
  rintro e w3 ⟨v, rfl, hv, b3⟩
  have B3 := Lib.hid (below_then B2.out b3 B2.out.size)
  have J := Lib.hid (H.out.below B3.out)
  have HZ := Lib.hid B2.out.size
  by_cases hz : n' = 0
  · have hy0 : n = 0 := by have := HO.out; omega
    have hzx : ys = [] := List.eq_nil_of_length_eq_zero (by rw [HL'.out]; exact hz)
    obtain ⟨A3, n3, c3, rfl, i3, g3⟩ := hv.ints
    rw [hzx] at i3
    have hn3 : n3 = 0 := by have := i3.len; simpa using this.symm
    subst hn3
    have wc := within_calls 1125899906842624 w3 i3
    rw [show inB 1125899906842624 ([] : List Int) = true from rfl] at wc
    have WC := Lib.hid wc
    have I3 := Lib.hid (i3.alloc (.cells #[.int .i64 1125899906842624] 3))
    have HG := Lib.hid g3
    have hy0' : (n : Int) = 0 := by omega
    have HE : Hid (([], 0) = V) := Lib.hid (by
      have := HV0.out
      rw [show addL ys xs = [] from List.eq_nil_of_length_eq_zero (by rw [addL_length, HL'.out, HL.out]; omega)] at this
      rwa [show inB 1125899906842624 ([] : List Int) = true from rfl, if_neg (by decide)] at this)
    subst hy0
    clear wc hv i3 g3 b3 hzx hz hy0'
    go_wp2
    go_loop [28] (fun i => i = .int .i64 0) (fun _ => 0)
    case atStart => rfl
    case round =>
      subst hrel
      go_wp2_with fail
      refine WC.out.mono ?_
      rintro e w4 ⟨rfl, rfl⟩
      go_wp2
      go_returns
      rw [← HE.out]
      exact ⟨_, _, _, rfl, I3.out, B3.out.alloc B3.out.size _, fun ad e => by have := HG.out ad e; have := HZ.out; omega⟩
  · obtain ⟨g, q, rfl, hgB, hqc, hqm, hrow⟩ := hv.asRow (by rw [HL'.out]; omega)
    rw [HL'.out] at hqc hrow ⊢
    have HR := Lib.hid (hrow.congr (G := adF ys xs 0) (fun m _ => (adF_zero ys xs m).symm))
    have HFR : Hid (∀ ad, A = some ad → 0 < n → ad.block ≠ g) := Lib.hid fun ad e hp => by
      obtain ⟨ad', e', hl, _⟩ := I.out.mem hp
      rw [e] at e'
      injection e' with e'
      subst e'
      omega
    have B3' := Lib.hid b3
    have HGB := Lib.hid hgB
    clear hv hrow b3 hz
    go_wp2
    go_loopw [28] (fun i wr => ∃ k : Nat, k ≤ n ∧ i = .int .i64 k ∧ Row wr g n' (adF ys xs k) ∧ Ints wr A n c xs ∧ Below w2.heap.size w2 wr) (fun i _ => n - (intOf i).toNat)
    case atStart => exact ⟨0, Nat.zero_le _, rfl, HR.out, J.out, B3'.out⟩
    case round =>
      obtain ⟨k, hk, rfl, hr, hi, hb⟩ := hrel
      have HB := Lib.hid hb
      by_cases hlt : k < n
      · have co := hr.cell k (by have := HO.out; omega)
        have fo := hr.free k
        have r1 := ad_rng HY.out HX.out k k
        have r2 := vol_bd HX.out k
        have HF := Lib.hid ((hr.set k (adF ys xs k k + el xs k)).congr (G := adF ys xs (k + 1)) (fun q _ => adF_step ys xs k q))
        have HI := Lib.hid (hi.far (p := ⟨g, k, none⟩) (fun ad e => HFR.out ad e (by omega)) (.int .i64 (adF ys xs k k + el xs k)))
        obtain ⟨ad, hA, hl, hc⟩ := hi.at_ hlt
        subst hA
        have hkx : (k : Int) < n' := by have := HO.out; omega
        obtain ⟨r10, r11⟩ := r1
        obtain ⟨r20, r21⟩ := r2
        clear hr hi hb
        generalize adF ys xs k k = a at *
        generalize el xs k = y at *
        go_wp2
        go_roundw
        case rel => exact ⟨k + 1, by omega, by go_num, HF.out, HI.out, HB.out.setCell (by simpa using HGB.out) _⟩
        case measure => simp [intOf]; try omega
      · obtain rfl : k = n := by omega
        have hr' := hr.congr (G := addF ys xs) (fun m _ => by have := adF_all ys xs m; rwa [HL.out] at this)
        have hI := hr'.ints hqc hqm (by omega) (fun m _ => by have h1 := vol_bd HY.out m; have h2 := vol_bd HX.out m; unfold addF; omega)
        rw [show fl n' (addF ys xs) = addL ys xs from by unfold addL; rw [HL'.out, HL.out, Nat.max_eq_left (by have := HO.out; omega)]] at hI
        have wc := within_calls 1125899906842624 wr hI
        have WC := Lib.hid wc
        have HII := Lib.hid (hI.alloc (.cells #[.int .i64 1125899906842624] 3))
        have HB2 := Lib.hid ((below_then B2.out HB.out HZ.out).alloc (Nat.le_trans HZ.out HB.out.size) (.cells #[.int .i64 1125899906842624] 3))
        clear hr hi hb hr' hI wc
        cases hin : inB 1125899906842624 (addL ys xs)
        · have HV1 : Hid (([], 5) = V) := by have := HV0.out; rwa [hin, if_pos rfl] at this
          rw [hin] at WC
          clear hin
          go_wp2_with fail
          refine WC.out.mono ?_
          rintro e w' ⟨rfl, rfl⟩
          go_wp2
          go_returns
          rw [← HV1.out]
          exact RetL.none_ HB2.out
        · have HV1 : Hid ((addL ys xs, 0) = V) := by have := HV0.out; rwa [hin, if_neg (by decide)] at this
          rw [hin] at WC
          clear hin
          go_wp2_with fail
          refine WC.out.mono ?_
          rintro e w' ⟨rfl, rfl⟩
          go_wp2
          go_returns
          rw [← HV1.out]
          exact ⟨_, _, _, rfl, HII.out, HB2.out, fun ad e => by injection e with e; subst e; have := HZ.out; have := HGB.out; simp; omega⟩
end Go.Proofs.Ytlkocedhhdknoaa
