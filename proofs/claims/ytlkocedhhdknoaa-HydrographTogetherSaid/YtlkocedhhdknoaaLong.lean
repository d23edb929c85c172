/- Curve and Longer of the program and of the reference. -/
import Derived.Test.YtlkocedhhdknoaaLongLaw
import Derived.RegionTactic
import Derived.IntWalk
namespace Go.Proofs.Ytlkocedhhdknoaa
open Go.RowKit
set_option linter.unusedVariables false

theorem curve_step {w1 : World} {B : Nat} {v : Value} {us : List Int} {k : Nat} {x : Int} (h : Own w1 B v (fl k (fun i => sumF (el us) (i + 1)) ++ [x])) (hx : x = sumF (el us) (k + 1)) : Own w1 B v (fl (k + 1) (fun i => sumF (el us) (i + 1))) := by
  rw [fl_succ, ← hx]; exact h

set_option maxHeartbeats 600000 in
theorem Curve_calls {A : Option Addr} {n c : Nat} {us : List Int} (w : World) (h : Ints w A n c us) :
    Calls Try.prog 25 #[.slice A n c] w (RetL (if validB us = true then curveL us else []) (if validB us = true then 0 else 1) w) := by
  have H := Lib.hid h
  have hcap := h.cap
  have hmax := h.max
  have HL := Lib.hid h.len
  have v := Valid_calls w h
  cases hv : validB us
  · rw [if_neg (by decide), if_neg (by decide)]
    rw [hv] at v
    have V := Lib.hid v
    clear v hv h
    go_enter Try.func25, Try.ntmps25
    go_wp2_with fail
    refine V.out.mono ?_
    rintro e w1 ⟨rfl, b1⟩
    go_wp2
    go_returns
    exact RetL.none_ b1
  · rw [if_pos rfl, if_pos rfl]
    rw [hv] at v
    have V := Lib.hid v
    have HV := Lib.hid hv
    clear v hv h
    go_enter Try.func25, Try.ntmps25
    go_wp2_with fail
    refine V.out.mono ?_
    rintro e w1 ⟨rfl, b1⟩
    have B1 := Lib.hid b1
    clear b1
    go_wp2
    go_loopw [4, 5, 13] (fun v s i wr => ∃ k : Nat, k ≤ n ∧ i = .int .i64 k ∧ s = .int .i64 (sumF (el us) k) ∧ Own wr w.heap.size v (fl k (fun i => sumF (el us) (i + 1))) ∧ Below w.heap.size w wr) (fun _ _ i _ => n - (intOf i).toNat)
    case atStart => exact ⟨0, Nat.zero_le _, rfl, rfl, Own.nil _ _, B1.out⟩
    case round =>
      obtain ⟨k, hk, rfl, rfl, ho, hb⟩ := hrel
      have HO := Lib.hid ho
      have HB := Lib.hid hb
      by_cases hlt : k < n
      · obtain ⟨ad, rfl, hl, hc⟩ := (H.out.below hb).at_ hlt
        have b0 := w_sum HV.out (show k ≤ us.length by rw [HL.out]; omega)
        have b1 := w_sum HV.out (show k + 1 ≤ us.length by rw [HL.out]; omega)
        have by0 := inB_el (valid_parts HV.out).2.2.1 (show k < us.length by rw [HL.out]; exact hlt)
        rw [sumF] at b1
        have HE : Hid (sumF (el us) k + el us k = sumF (el us) (k + 1)) := Lib.hid rfl
        have hfew := (valid_parts HV.out).2.1
        rw [HL.out] at hfew
        obtain ⟨b00, b01⟩ := b0
        obtain ⟨b10, b11⟩ := b1
        obtain ⟨y0, y1⟩ := by0
        clear ho hb
        go_wp2_with (at_builtin; refine wpList_append_int _ w.heap.size _ (fl k (fun i => sumF (el us) (i + 1))) (sumF (el us) k + el us k) rfl _ _ rfl rfl rfl HO.out HB.out.size (by rw [fl_length]; omega) (by omega) ?_)
        intro v' w2 ho hb
        have R1 := Lib.hid (curve_step ho HE.out)
        have R2 := Lib.hid (HB.out.trans hb)
        clear ho hb
        go_wp2
        go_roundw
        case rel => exact ⟨k + 1, by omega, by go_num, ret_v HE.out, R1.out, R2.out⟩
        case measure => simp [intOf]; try omega
      · obtain rfl : k = n := by omega
        clear ho hb
        go_wp2
        go_returns
        have := RetL.own (x := 0) HO.out HB.out
        unfold curveL
        rw [HL.out]
        exact this

set_option maxHeartbeats 600000 in
theorem Curve_ref {A : Option Addr} {n c : Nat} {us : List Int} (w : World) (h : Ints w A n c us) (hv : validB us = true) :
    Calls Try.prog 28 #[.slice A n c] w (Ret1 (curveL us) w) := by
  have H := Lib.hid h
  have hcap := h.cap
  have hmax := h.max
  have HL := Lib.hid h.len
  have HV := Lib.hid hv
  have hfew := (valid_parts hv).2.1
  rw [h.len] at hfew
  clear hv h
  go_enter Try.func28, Try.ntmps28
  go_wp2
  go_loopw [3, 4] (fun v i wr => ∃ k : Nat, k ≤ n ∧ i = .int .i64 k ∧ Own wr w.heap.size v (fl k (fun i => sumF (el us) (i + 1))) ∧ Below w.heap.size w wr) (fun _ i _ => n - (intOf i).toNat)
  case atStart => exact ⟨0, Nat.zero_le _, rfl, Own.nil _ _, Below.refl _ _⟩
  case round =>
    obtain ⟨k, hk, rfl, ho, hb⟩ := hrel
    have HO := Lib.hid ho
    have HB := Lib.hid hb
    by_cases hlt : k < n
    · have hI := (H.out.below hb)
      obtain ⟨ad, rfl, hl, hc⟩ := hI.at_ hlt
      have s := Sum_ref wr (hI.take (show k + 1 ≤ n by omega)) (fun j hj => by
        rw [sumF_take hj]
        have := w_sum HV.out (show j ≤ us.length by rw [HL.out]; omega)
        omega)
      rw [sumL_take (by rw [HL.out]; omega)] at s
      have b1 := w_sum HV.out (show k + 1 ≤ us.length by rw [HL.out]; omega)
      obtain ⟨x, hx⟩ : ∃ x, sumF (el us) (k + 1) = x := ⟨_, rfl⟩
      rw [hx] at s b1
      have S := Lib.hid s
      have HX := Lib.hid hx
      obtain ⟨b10, b11⟩ := b1
      clear ho hb s hx hI hc
      go_wp2_with fail
      refine S.out.mono ?_
      rintro e w1 ⟨rfl, rfl⟩
      go_wp2_with (at_builtin; refine wpList_append_int _ w.heap.size _ (fl k (fun i => sumF (el us) (i + 1))) x rfl _ _ rfl rfl rfl HO.out HB.out.size (by rw [fl_length]; omega) (by omega) ?_)
      intro v' w2 ho hb
      have R1 := Lib.hid (curve_step ho HX.out.symm)
      have R2 := Lib.hid (HB.out.trans hb)
      clear ho hb
      go_wp2
      go_roundw
      case rel => exact ⟨k + 1, by omega, by go_num, R1.out, R2.out⟩
      case measure => simp [intOf]; try omega
    · obtain rfl : k = n := by omega
      clear ho hb
      go_wp2
      go_returns
      have := Ret1.own HO.out HB.out
      unfold curveL
      rw [HL.out]
      exact this

theorem lg_rng {us : List Int} (h : validB us = true) {n : Nat} (hn : n ≤ us.length) (k m : Nat) : -9223372036854775808 ≤ lgF us k n m ∧ lgF us k n m ≤ 9223372036854775807 := by
  have := lgF_bd h hn k m; omega

set_option maxHeartbeats 1000000 in
set_option maxRecDepth 100000 in
theorem Longer_in {A : Option Addr} {n c : Nat} {us : List Int} (k : Nat) (w : World) (h : Ints w A n c us) (hok : validB us = true) (hk0 : 1 ≤ k) (hk : k ≤ 1000) (hN : n + k - 1 ≤ 1000) :
    Calls Try.prog 26 #[.slice A n c, .int .i64 k] w (RetL (longR us k).1 (longR us k).2 w) := by
  obtain ⟨V, hV⟩ : ∃ V, longR us k = V := ⟨_, rfl⟩
  rw [hV]
  unfold longR at hV
  have HV0 := Lib.hid hV
  have hl := h.len
  have hcap := h.cap
  have hmax := h.max
  obtain ⟨hu0, hu1, huin, -⟩ := valid_parts hok
  rw [hl] at hu0 hu1
  obtain ⟨N, hNN⟩ : ∃ N : Nat, (n : Int) + k - 1 = N := ⟨n + k - 1, by omega⟩
  have hN1 : N ≤ 1000 := by omega
  have hNe : n + k - 1 = N := by omega
  have s1 := Valid_calls w h
  rw [hok] at s1
  have H := Lib.hid h
  have HL := Lib.hid hl
  have HOK := Lib.hid hok
  have HIN := Lib.hid huin
  have S1 := Lib.hid s1
  have HN := Lib.hid hNe
  have n0 : ¬ (k : Int) < 1 := by omega
  have n1 : ¬ (1000 : Int) < k := by omega
  have n2 : ¬ (1000 : Int) < N := by omega
  clear s1 h hl hok huin hNe hN hV
  go_enter Try.func26, Try.ntmps26
  go_wp2_with fail
  refine S1.out.mono ?_
  rintro e w2 ⟨rfl, hb2⟩
  have I := Lib.hid (H.out.below hb2)
  have HB := Lib.hid hb2
  have HSZ := Lib.hid hb2.size
  have hmk := make_ints N (by omega)
  have HR := Lib.hid (Row.made w2 N)
  clear hb2 S1 H
  go_wp2
  clear hmk
  go_loopw [36] (fun i wr => ∃ i' : Nat, i' ≤ n ∧ i = .int .i64 i' ∧ Row wr w2.heap.size N (lgF us k i') ∧ Below w2.heap.size w2 wr) (fun i _ => n - (intOf i).toNat)
  case atStart => exact ⟨0, Nat.zero_le _, rfl, HR.out.congr (fun m _ => (lgF_zero us k m).symm), (Below.refl _ _).alloc (Nat.le_refl _) _⟩
  case round =>
    obtain ⟨i, hi, rfl, hrow, hbe⟩ := hrel
    obtain ⟨wo, rfl⟩ : ∃ wo : World, wo = wr := ⟨_, rfl⟩
    have HROW := Lib.hid hrow
    have HBE := Lib.hid hbe
    by_cases hlt : i < n
    · obtain ⟨ad, rfl, hl, hc⟩ := (I.out.below hbe).at_ hlt
      have hy := inB_el HIN.out (show i < us.length by rw [HL.out]; exact hlt)
      obtain ⟨x, hx⟩ : ∃ x, el us i = x := ⟨_, rfl⟩
      rw [hx] at hc hy
      have HX := Lib.hid hx
      obtain ⟨y0, y1⟩ := hy
      have HRW := Lib.hid (hrow.congr (G := lgM us k i 0) (fun m _ => (lgM_zero us k i m).symm))
      clear hrow hbe hx
      go_wp2
      go_loopw [42] (fun x wr => ∃ j : Nat, j ≤ k ∧ x = .int .i64 j ∧ Row wr w2.heap.size N (lgM us k i j) ∧ Below w2.heap.size w2 wr) (fun x _ => k - (intOf x).toNat)
      case atStart => exact ⟨0, Nat.zero_le _, rfl, HRW.out, HBE.out⟩
      case round =>
        obtain ⟨j, hj, rfl, hrow2, hbe2⟩ := hrel
        have HBE2 := Lib.hid hbe2
        by_cases hlt2 : j < k
        · have hm1 := lgM_bd HOK.out (show i < us.length by rw [HL.out]; exact hlt) k j (i + j)
          have co := hrow2.cell (i + j) (by have := HN.out; omega)
          have fo := hrow2.free (i + j)
          have HF := Lib.hid ((hrow2.set (i + j) (lgM us k i j (i + j) + x)).congr (G := lgM us k i (j + 1)) (fun q _ => by rw [← HX.out]; exact lgM_step us k i j q))
          obtain ⟨m0, m1⟩ := hm1
          clear hrow2 hbe2
          generalize lgM us k i j (i + j) = a at *
          go_wp2
          go_roundw
          case rel => exact ⟨j + 1, by omega, by go_num, HF.out, HBE2.out.setCell (by simp) _⟩
          case measure => simp [intOf]; try omega
        · obtain rfl : j = k := by omega
          have HF := Lib.hid (hrow2.congr (G := lgF us j (i + 1)) (fun q _ => lgM_all us j i q))
          clear hrow2 hbe2
          go_wp2
          go_roundw
          case rel => exact ⟨i + 1, by omega, by go_num, HF.out, HBE2.out⟩
          case measure => simp [intOf]; try omega
    · obtain rfl : i = n := by omega
      have hI := hrow.ints (Nat.le_refl N) (by omega) (by omega) (fun m _ => lg_rng HOK.out (by rw [HL.out]; omega) k m)
      have hE : fl N (lgF us k i) = longL us k := by unfold longL; rw [HL.out, HN.out]
      rw [hE] at hI
      have wc := within_calls 1073741824 wo hI
      have HWC := Lib.hid wc
      have HII := Lib.hid (hI.alloc (.cells #[.int .i64 1073741824] 3))
      have HB2 := Lib.hid ((HB.out.trans (HBE.out.mono HSZ.out)).alloc (Nat.le_trans HSZ.out HBE.out.size) (.cells #[.int .i64 1073741824] 3))
      clear hrow hbe hI wc hE
      cases hin : inB 1073741824 (longL us k)
      · have HV1 : Hid (([], 5) = V) := by have := HV0.out; rwa [hin, if_pos rfl] at this
        rw [hin] at HWC
        clear hin
        go_wp2_with fail
        refine HWC.out.mono ?_
        rintro e w' ⟨rfl, rfl⟩
        go_wp2
        go_returns
        rw [← HV1.out]
        exact RetL.none_ HB2.out
      · have HV1 : Hid ((longL us k, 0) = V) := by have := HV0.out; rwa [hin, if_neg (by decide)] at this
        rw [hin] at HWC
        clear hin
        go_wp2_with fail
        refine HWC.out.mono ?_
        rintro e w' ⟨rfl, rfl⟩
        go_wp2
        go_returns
        rw [← HV1.out]
        exact ⟨_, _, _, rfl, HII.out, HB2.out, fun ad e => by injection e with e; subst e; exact HSZ.out⟩

theorem lbig_of {us : List Int} {n k : Nat} (hl : us.length = n) {m : Nat} (hm : m < n + k - 1) (hb : 1073741824 < lgF us k n m) : inB 1073741824 (longL us k) = false := by
  have : el (longL us k) m = lgF us k us.length m := el_fl _ (by rw [hl]; exact hm)
  exact in_high (by rw [longL_length, hl]; exact hm) (by rw [this, hl]; exact hb)
theorem lsmall_of {us : List Int} (h : validB us = true) {n k : Nat} (hl : us.length = n) (hs : ∀ m, m < n + k - 1 → ¬ 1073741824 < lgF us k n m) : inB 1073741824 (longL us k) = true := by
  apply in_all
  intro m hm
  rw [longL_length, hl] at hm
  have : el (longL us k) m = lgF us k us.length m := el_fl _ (by rw [hl]; exact hm)
  have h1 := lgF_bd h (Nat.le_of_eq hl.symm) k m
  unfold badB
  rw [this, hl, decide_eq_false (by omega), decide_eq_false (hs m hm)]; rfl

set_option maxHeartbeats 1000000 in
set_option maxRecDepth 100000 in
theorem Longer_inR {A : Option Addr} {n c : Nat} {us : List Int} (k : Nat) (w : World) (h : Ints w A n c us) (hok : validB us = true) (hk0 : 1 ≤ k) (hk : k ≤ 1000) (hN : n + k - 1 ≤ 1000) :
    Calls Try.prog 27 #[.slice A n c, .int .i64 k] w (RetL (longR us k).1 (longR us k).2 w) := by
  obtain ⟨V, hV⟩ : ∃ V, longR us k = V := ⟨_, rfl⟩
  rw [hV]
  unfold longR at hV
  have HV0 := Lib.hid hV
  have hl := h.len
  have hcap := h.cap
  have hmax := h.max
  obtain ⟨hu0, hu1, huin, -⟩ := valid_parts hok
  rw [hl] at hu0 hu1
  obtain ⟨N, hNN⟩ : ∃ N : Nat, (n : Int) + k - 1 = N := ⟨n + k - 1, by omega⟩
  have hN1 : N ≤ 1000 := by omega
  have hNe : n + k - 1 = N := by omega
  have s1 := Valid_ref w h
  rw [hok] at s1
  have I := Lib.hid h
  have HL := Lib.hid hl
  have HOK := Lib.hid hok
  have HIN := Lib.hid huin
  have S1 := Lib.hid s1
  have HN := Lib.hid hNe
  have n0 : ¬ (k : Int) < 1 := by omega
  have n1 : ¬ (1000 : Int) < k := by omega
  have n2 : ¬ (1000 : Int) < N := by omega
  have hmk := make_ints N (by omega)
  have HR := Lib.hid (Row.made w N)
  clear s1 h hl hok huin hNe hN hV
  go_enter Try.func27, Try.ntmps27
  go_wp2_with fail
  refine S1.out.mono ?_
  rintro e w2 ⟨rfl, rfl⟩
  go_wp2
  clear hmk
  go_loopw [8] (fun i wr => ∃ j : Nat, j ≤ k ∧ i = .int .i64 j ∧ Row wr w.heap.size N (lhF us j) ∧ Below w.heap.size w wr) (fun i _ => k - (intOf i).toNat)
  case atStart => exact ⟨0, Nat.zero_le _, rfl, HR.out.congr (fun m _ => (lhF_zero us m).symm), (Below.refl _ _).alloc (Nat.le_refl _) _⟩
  case round =>
    obtain ⟨j, hj, rfl, hrow, hbe⟩ := hrel
    obtain ⟨wo, rfl⟩ : ∃ wo : World, wo = wr := ⟨_, rfl⟩
    have HROW := Lib.hid hrow
    have HBE := Lib.hid hbe
    by_cases hlt : j < k
    · have HRW := Lib.hid (hrow.congr (G := lhM us j 0) (fun m _ => (lhM_zero us j m).symm))
      clear hrow hbe
      go_wp2
      go_loopw [9] (fun x wr => ∃ i : Nat, i ≤ n ∧ x = .int .i64 i ∧ Row wr w.heap.size N (lhM us j i) ∧ Below w.heap.size w wr) (fun x _ => n - (intOf x).toNat)
      case atStart => exact ⟨0, Nat.zero_le _, rfl, HRW.out, HBE.out⟩
      case round =>
        obtain ⟨i, hi, rfl, hrow2, hbe2⟩ := hrel
        have HBE2 := Lib.hid hbe2
        by_cases hlt2 : i < n
        · obtain ⟨ad, rfl, hl, hc⟩ := (I.out.below hbe2).at_ hlt2
          have hy := inB_el HIN.out (show i < us.length by rw [HL.out]; exact hlt2)
          have hm1 := lhM_bd HOK.out (show i ≤ us.length by rw [HL.out]; omega) j (j + i)
          have hq1 : j + i < N := by have := HN.out; omega
          have co := hrow2.cell (j + i) hq1
          have fo := hrow2.free (j + i)
          have HF := Lib.hid ((hrow2.drew.set (j + i) (lhM us j i (j + i) + el us i)).congr (G := lhM us j (i + 1)) (fun q _ => lhM_step us j i q))
          have HB3 := Lib.hid ((hbe2.drew).setCell (p := ⟨w.heap.size, j + i, none⟩) (by simp) (.int .i64 (lhM us j i (j + i) + el us i)))
          have e1 : IntKind.i64.wrap ((j : Int) + i) = ((j + i : Nat) : Int) := by rw [← Int.natCast_add]; exact IntWalk.i64_in _ (by omega)
          obtain ⟨m0, m1⟩ := hm1
          obtain ⟨y0, y1⟩ := hy
          clear hrow2 hbe2
          generalize lhM us j i (j + i) = a at *
          generalize el us i = x at *
          generalize j + i = q at *
          have e2 : IntKind.i64.wrap (a + x) = a + x := IntWalk.i64_in _ (by omega)
          have e3 : (0 : Int) ≤ q := by omega
          have e4 : (q : Int) < N := by omega
          have e5 : (0 : Int) ≤ i := by omega
          have e6 : (i : Int) < n := by omega
          go_wp2
          go_region
          clear e1 e2
          go_wp2
          go_roundw
          case rel => exact ⟨i + 1, by omega, by go_num, HF.out, HB3.out⟩
          case measure => simp [intOf]; try omega
        · obtain rfl : i = n := by omega
          have HF := Lib.hid (hrow2.congr (G := lhF us (j + 1)) (fun q _ => by rw [← lhM_all, HL.out]))
          clear hrow2 hbe2
          go_wp2
          go_roundw
          case rel => exact ⟨j + 1, by omega, by go_num, HF.out, HBE2.out⟩
          case measure => simp [intOf]; try omega
    · obtain rfl : j = k := by omega
      have hrow' := hrow.congr (G := lgF us j n) (fun m _ => by unfold lhF; rw [HL.out])
      have hI := hrow'.ints (Nat.le_refl N) (by omega) (by omega) (fun m _ => lg_rng HOK.out (by rw [HL.out]; omega) j m)
      have hE : fl N (lgF us j n) = longL us j := by unfold longL; rw [HL.out, HN.out]
      rw [hE] at hI
      have HII := Lib.hid hI
      have HRO := Lib.hid hrow'
      clear hrow hbe hI hE hrow'
      go_wp2
      go_loop [10] (fun x => ∃ i : Nat, i ≤ N ∧ x = .int .i64 i ∧ ∀ m, m < i → ¬ 1073741824 < lgF us j n m) (fun x => N - (intOf x).toNat)
      case atStart => exact ⟨0, Nat.zero_le _, rfl, fun i hi => absurd hi (by omega)⟩
      case round =>
        obtain ⟨i, hi, rfl, hno⟩ := hrel
        have HNO := Lib.hid hno
        clear hno
        by_cases hlt2 : i < N
        · have cj := HRO.out.cell i hlt2
          have HS : Hid (¬ 1073741824 < lgF us j n i → ∀ m, m < i + 1 → ¬ 1073741824 < lgF us j n m) := Lib.hid fun h m hm => by
            by_cases hij : m = i
            · subst hij; exact h
            · have := HNO.out m (by omega); omega
          have HT : Hid (1073741824 < lgF us j n i → inB 1073741824 (longL us j) = false) := Lib.hid fun h => lbig_of HL.out (m := i) (by rw [HN.out]; exact hlt2) h
          generalize lgF us j n i = x at *
          by_cases hb : 1073741824 < x
          · go_wp2
            go_returns
            have := HV0.out
            rw [HT.out hb, if_pos rfl] at this
            rw [← this]
            exact RetL.none_ HBE.out
          · go_wp2
            go_round
            case rel => exact ⟨i + 1, by omega, by go_num, HS.out (by omega)⟩
            case measure => simp [intOf]; try omega
        · obtain rfl : i = N := by omega
          go_wp2
          go_returns
          have := HV0.out
          rw [lsmall_of HOK.out HL.out (fun m hm => by have := HNO.out m (by rw [HN.out] at hm; exact hm); omega), if_neg (by decide)] at this
          rw [← this]
          exact ⟨_, _, _, rfl, HII.out, HBE.out, fun ad e => by injection e with e; subst e; exact Nat.le_refl _⟩
end Go.Proofs.Ytlkocedhhdknoaa
