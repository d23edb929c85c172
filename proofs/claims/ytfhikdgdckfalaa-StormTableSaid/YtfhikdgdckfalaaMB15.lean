/- Uniform and triangular storms as plain functions. No program in sight. -/
import Derived.Test.YtfhikdgdckfalaaMB14
import Derived.Test.YtfhikdgdckfalaaMB03
import Derived.Test.YtfhikdgdckfalaaMB06

namespace Go.Proofs.Ytfhikdgdckfalaa
open Go.RowKit
set_option linter.unusedVariables false

def onesL (n : Nat) : List Int := List.replicate n 1
theorem el_ones {n k : Nat} (h : k < n) : el (onesL n) k = 1 := by
  unfold onesL el; rw [List.getD_eq_getElem?_getD, List.getElem?_replicate, if_pos h]; rfl
theorem sumF_le {F : Nat → Int} {m : Int} : ∀ {n : Nat}, (∀ k, k < n → F k ≤ m) → sumF F n ≤ n * m
  | 0, _ => by simp [sumF]
  | n + 1, h => by
    have h1 := sumF_le (F := F) (m := m) (n := n) (fun k hk => h k (by omega))
    have h2 := h n (by omega)
    rw [sumF]
    have : ((n + 1 : Nat) : Int) * m = n * m + m := by rw [Int.natCast_add, Int.add_mul]; simp
    omega
theorem sumF_one : ∀ n : Nat, sumF (fun _ => 1) n = n
  | 0 => rfl
  | n + 1 => by rw [sumF, sumF_one n]; simp
theorem sumF_pos {F : Nat → Int} {n : Nat} (hn : 0 < n) (h0 : 0 < F 0) (h : ∀ k, k < n → 0 ≤ F k) : 0 < sumF F n := by
  obtain ⟨m, rfl⟩ : ∃ m, n = m + 1 := ⟨n - 1, by omega⟩
  induction m with
  | zero => rw [sumF, sumF]; omega
  | succ m ih =>
    have := ih (by omega) (fun k hk => h k (by omega))
    have h2 := h (m + 1) (by omega)
    rw [sumF]
    omega
theorem ones_ok {d : Int} {n : Nat} (d0 : 0 ≤ d) (d1 : d ≤ 4194304) (hn : 0 < n) (hm : n ≤ 10000) : ShareOk d (onesL n) := by
  have hl : (onesL n).length = n := by unfold onesL; simp
  have hs : sumL (onesL n) = n := by
    unfold sumL
    rw [hl, ← sumF_one n]
    exact sumF_congr fun k hk => el_ones hk
  refine ⟨by omega, d0, by omega, ?_, by rw [hs]; omega, by rw [hs]; omega⟩
  rw [inB_iff]
  intro z hz
  have : z = 1 := List.eq_of_mem_replicate hz
  omega
def triF (n p i : Nat) : Int := if i ≤ p then ((i : Int) + 1) * ((n : Int) - p) else ((n : Int) - i) * ((p : Int) + 1)
def triL (n p : Nat) : List Int := fl n (triF n p)
theorem triF_bd {n p i : Nat} (hn : n ≤ 10000) (hp : p < n) (hi : i < n) : 0 < triF n p i ∧ triF n p i ≤ 100000000 := by
  unfold triF
  split
  · exact ⟨Int.mul_pos (by omega) (by omega), Int.le_trans (Int.mul_le_mul (show (i : Int) + 1 ≤ 10000 by omega) (show (n : Int) - p ≤ 10000 by omega) (by omega) (by omega)) (by omega)⟩
  · exact ⟨Int.mul_pos (by omega) (by omega), Int.le_trans (Int.mul_le_mul (show (n : Int) - i ≤ 10000 by omega) (show (p : Int) + 1 ≤ 10000 by omega) (by omega) (by omega)) (by omega)⟩
theorem tri_ok {d : Int} {n p : Nat} (d0 : 0 ≤ d) (d1 : d ≤ 4194304) (hp : p < n) (hm : n ≤ 10000) : ShareOk d (triL n p) := by
  have hl : (triL n p).length = n := fl_length _ _
  have hs : sumL (triL n p) = sumF (triF n p) n := by
    unfold sumL
    rw [hl]
    exact sumF_congr fun k hk => el_fl _ hk
  have h1 := sumF_le (F := triF n p) (m := 100000000) (n := n) (fun k hk => (triF_bd hm hp hk).2)
  have h2 := sumF_pos (F := triF n p) (n := n) (by omega) (triF_bd hm hp (by omega)).1 (fun k hk => Int.le_of_lt (triF_bd hm hp hk).1)
  refine ⟨by omega, d0, by omega, ?_, by rw [hs]; exact h2, by rw [hs]; omega⟩
  rw [inB_iff]
  intro z hz
  obtain ⟨k, hk, rfl⟩ := fl_mem hz
  have := triF_bd hm hp hk
  omega
def uniV (d f st n : Int) : SerD × Int := if d < 0 ∨ 4194304 < d ∨ stB f st n = false then (zeroS, 2) else (⟨f, st, shL d (onesL n.toNat)⟩, 0)
def triV (d f st n p : Int) : SerD × Int := if d < 0 ∨ 4194304 < d ∨ stB f st n = false ∨ ixB p n = false then (zeroS, 2) else (⟨f, st, shL d (triL n.toNat p.toNat)⟩, 0)
end Go.Proofs.Ytfhikdgdckfalaa

/- The chapter's examples, reckoned. No program in sight. -/
namespace Go.Proofs.Ytfhikdgdckfalaa
open Go.RowKit
set_option linter.unusedVariables false

theorem ser_eta {s : SerD} {f st : Int} {ds : List Int} (h1 : s.f = f) (h2 : s.st = st) (h3 : s.ds = ds) : s = ⟨f, st, ds⟩ := by
  cases s; cases h1; cases h2; cases h3; rfl
theorem ex1 : uniV 10 0 300 4 = (⟨0, 300, [2, 3, 2, 3]⟩, 0) := by
  unfold uniV
  rw [if_neg (by decide +kernel)]
  rw [show shL 10 (onesL (4 : Int).toNat) = [2, 3, 2, 3] by decide +kernel]
theorem ex2 : triV 12 0 300 3 1 = (⟨0, 300, [3, 6, 3]⟩, 0) := by
  unfold triV
  rw [if_neg (by decide +kernel)]
  rw [show shL 12 (triL (3 : Int).toNat (1 : Int).toNat) = [3, 6, 3] by decide +kernel]
theorem ex3 : madeV true [300, 600, 900] [2] [[50, 80, 90]] 2 0 300 3 1 true = (⟨0, 300, [10, 50, 30]⟩, 0) := by
  unfold madeV
  rw [if_neg (by decide), if_neg (by decide +kernel), if_pos (by decide +kernel)]
  rw [show (if true = true then placL (blkL [300, 600, 900] [2] [[50, 80, 90]] 2 300 (3 : Int).toNat) (1 : Int).toNat else blkL [300, 600, 900] [2] [[50, 80, 90]] 2 300 (3 : Int).toNat) = [10, 50, 30] by decide +kernel]
theorem ex_ok : VOk [300, 600, 900] [2] [[50, 80, 90]] := by
  refine ⟨⟨by decide, fun j hj => ?_, by decide, by decide⟩, ⟨by decide, fun j hj => absurd hj (by simp), by decide, by decide⟩, rfl, fun k hk => ?_⟩
  · have : j = 0 ∨ j = 1 := by simp at hj; omega
    rcases this with rfl | rfl <;> decide
  obtain rfl : k = 0 := by simp at hk; omega
  refine ⟨rfl, fun j hj => ⟨?_, fun i hi => ?_, fun i hi => by omega⟩⟩
  · have : j = 0 ∨ j = 1 ∨ j = 2 := by simp at hj; omega
    rcases this with rfl | rfl | rfl <;> decide
  · subst hi
    have : i = 0 ∨ i = 1 := by simp at hj; omega
    rcases this with rfl | rfl <;> decide
end Go.Proofs.Ytfhikdgdckfalaa

/- Share of the program: the shares, or the error number. -/
namespace Go.Proofs.Ytfhikdgdckfalaa
open Go.RowKit
set_option linter.unusedVariables false

/-- The capped sum, and whether it is too great. -/
def Capped (s : Int) (b : Bool) (a : Int) : Prop := (b = false ∧ s = a ∧ a ≤ 1152921504606846976) ∨ (b = true ∧ s = 1152921504606846976 ∧ 1152921504606846976 < a)
theorem capped0 : Capped 0 false 0 := .inl ⟨rfl, rfl, by omega⟩

set_option maxHeartbeats 4000000 in
set_option maxRecDepth 100000 in
theorem Share_bad {A : Option Addr} {n c : Nat} {ws : List Int} (t : Int) (w : World) (h : Ints w A n c ws) (hno : ¬ ShareOk t ws) :
    Calls Try.prog 63 #[.int .i64 t, .slice A n c] w (RetL [] (ShareE t ws) w) := by
  have HL := Lib.hid h.len
  have hcap := h.cap
  have hmax := h.max
  have H := Lib.hid h
  obtain ⟨x, hx⟩ : ∃ x, ShareE t ws = x := ⟨_, rfl⟩
  have hx0 : ¬ x = 0 := fun e => hno (shareE_ok.1 (hx.trans e))
  rw [hx]
  unfold ShareE at hx
  rw [HL.out] at hx
  have HX := Lib.hid hx
  have HX0 := Lib.hid hx0
  clear hx hx0 hno h
  by_cases c1 : 10000 < (n : Int)
  · go_enter Try.func63, Try.ntmps63
    go_wp2
    go_returns
    rw [← HX.out, if_pos (by omega)]
    exact RetL.none_ (Below.refl _ _)
  by_cases c2 : t < 0
  · go_enter Try.func63, Try.ntmps63
    go_wp2
    go_returns
    rw [← HX.out, if_neg (by omega), if_pos (by omega)]
    exact RetL.none_ (Below.refl _ _)
  by_cases c3 : 1125899906842624 < t
  · go_enter Try.func63, Try.ntmps63
    go_wp2
    go_returns
    rw [← HX.out, if_neg (by omega), if_pos (by omega)]
    exact RetL.none_ (Below.refl _ _)
  replace HX : Hid ((if inB 1125899906842624 ws = false then 2 else if 1152921504606846976 < sumL ws then 5 else if sumL ws = 0 then 16 else 0) = x) := by
    have := HX.out
    rw [if_neg (by omega), if_neg (by omega)] at this
    exact this
  go_enter Try.func63, Try.ntmps63
  go_wp2
  go_loop [6, 7, 30] (fun u v i => ∃ (k : Nat) (s : Int) (b : Bool), k ≤ n ∧ i = .int .i64 k ∧ u = .int .i64 s ∧ v = .bool b ∧ Capped s b (sumF (el ws) k) ∧ ∀ j, j < k → badB 1125899906842624 (el ws j) = false) (fun _ _ i => n - (intOf i).toNat)
  case atStart => exact ⟨0, 0, false, Nat.zero_le _, rfl, rfl, rfl, capped0, fun j hj => absurd hj (by omega)⟩
  case round =>
    obtain ⟨k, s, b, hk, rfl, rfl, rfl, hcp, hno⟩ := hrel
    have HN := Lib.hid hno
    have HC := Lib.hid hcp
    clear hno hcp
    by_cases hlt : k < n
    · obtain ⟨ad, rfl, hl, hc⟩ := H.out.at_ hlt
      have S1 := @in_step 1125899906842624 ws k HN.out
      have S2 := @in_low 1125899906842624 ws k (by rw [HL.out]; exact hlt)
      have S3 := @in_high 1125899906842624 ws k (by rw [HL.out]; exact hlt)
      have S4 : sumF (el ws) (k + 1) = sumF (el ws) k + el ws k := rfl
      have HS1 := Lib.hid S1
      have HS2 := Lib.hid S2
      have HS3 := Lib.hid S3
      have HS4 := Lib.hid S4
      clear S1 S2 S3 S4
      generalize el ws k = y at *
      by_cases b0 : y < 0
      · go_wp2
        go_returns
        rw [← HX.out, if_pos (HS2.out b0)]
        exact RetL.none_ (Below.refl _ _)
      · by_cases b1 : 1125899906842624 < y
        · go_wp2
          go_returns
          rw [← HX.out, if_pos (HS3.out b1)]
          exact RetL.none_ (Below.refl _ _)
        · have hs : 0 ≤ s ∧ s ≤ 1152921504606846976 := by
            have hp := sumF_nonneg (F := el ws) (n := k) (fun j hj => by have := HN.out j hj; unfold badB at this; simp at this; omega)
            rcases HC.out with ⟨_, rfl, h2⟩ | ⟨_, rfl, h2⟩
            · exact ⟨hp, h2⟩
            · omega
          obtain ⟨hs0, hs1⟩ := hs
          by_cases b2 : 1152921504606846976 < s + y
          · have HR : Hid (Capped 1152921504606846976 true (sumF (el ws) (k + 1))) := Lib.hid (.inr ⟨rfl, rfl, by
              rw [HS4.out]
              rcases HC.out with ⟨_, h1, h2⟩ | ⟨_, h1, h2⟩ <;> omega⟩)
            go_wp2
            go_round
            case rel => exact ⟨k + 1, _, _, by omega, by go_num, rfl, rfl, HR.out, HS1.out (by omega) (by omega)⟩
            case measure => simp [intOf]; try omega
          · have HR : Hid (Capped (s + y) b (sumF (el ws) (k + 1))) := Lib.hid (by
              rw [HS4.out]
              rcases HC.out with ⟨h0, h1, h2⟩ | ⟨h0, h1, h2⟩
              · exact .inl ⟨h0, by omega, by omega⟩
              · exact .inr ⟨h0, by omega, by omega⟩)
            go_wp2
            go_round
            case rel => exact ⟨k + 1, _, _, by omega, by go_num, rfl, rfl, HR.out, HS1.out (by omega) (by omega)⟩
            case measure => simp [intOf]; try omega
    · obtain rfl : k = n := by omega
      have hin := in_all (fun j hj => HN.out j (by rw [HL.out] at hj; omega))
      have HX2 : Hid ((if 1152921504606846976 < sumF (el ws) k then 5 else if sumF (el ws) k = 0 then 16 else 0) = x) := by
        have := HX.out
        rw [hin, if_neg (by decide)] at this
        unfold sumL at this
        rw [HL.out] at this
        exact this
      clear hin
      rcases HC.out with ⟨rfl, rfl, h2⟩ | ⟨rfl, rfl, h2⟩
      · have hz : sumF (el ws) k = 0 := by
          have h1 := HX2.out
          rw [if_neg (by omega)] at h1
          rcases Decidable.em (sumF (el ws) k = 0) with h3 | h3
          · exact h3
          · rw [if_neg h3] at h1
            exact absurd h1.symm HX0.out
        have hz' : ((sumF (el ws) k : Int) == 0) = true := by rw [beq_iff_eq]; exact hz
        have HZ := Lib.hid hz
        clear hz
        go_wp2
        go_returns
        rw [← HX2.out, if_neg (by rw [HZ.out]; omega), if_pos HZ.out]
        exact RetL.none_ (Below.refl _ _)
      · go_wp2
        go_returns
        rw [← HX2.out, if_pos h2]
        exact RetL.none_ (Below.refl _ _)

theorem sh_step {w1 : World} {B : Nat} {v : Value} {t : Int} {ws : List Int} {k : Nat} {q0 q1 : Int} (h : Own w1 B v (fl k (shF t ws) ++ [q1 - q0])) (h0 : q0 = t * sumF (el ws) k / sumL ws) (h1 : q1 = t * sumF (el ws) (k + 1) / sumL ws) : Own w1 B v (fl (k + 1) (shF t ws)) := by
  rw [fl_succ, show shF t ws k = q1 - q0 from by unfold shF; rw [h0, h1]]; exact h

set_option maxHeartbeats 4000000 in
set_option maxRecDepth 100000 in
theorem Share_in {A : Option Addr} {n c : Nat} {ws : List Int} (t : Int) (w : World) (h : Ints w A n c ws) (hok : ShareOk t ws) :
    Calls Try.prog 63 #[.int .i64 t, .slice A n c] w (RetL (shL t ws) 0 w) := by
  have hlen := h.len
  have HL := Lib.hid hlen
  have hcap := h.cap
  have hmax := h.max
  have H := Lib.hid h
  have HOK := Lib.hid hok
  have d1 : ¬ (10000 : Int) < n := by have := hok.len; omega
  have d2 : ¬ t < 0 := by have := hok.t0; omega
  have d3 : ¬ 1125899906842624 < t := by have := hok.t1; omega
  obtain ⟨T, rfl⟩ : ∃ T : Nat, t = T := ⟨t.toNat, by omega⟩
  have hn : n ≤ 10000 := by omega
  have hmk := make_room n (by omega)
  have HR := Lib.hid (Own.room w w.heap.size n (Nat.le_refl _) (by omega))
  clear hlen hok h
  go_enter Try.func63, Try.ntmps63
  go_wp2
  go_loop [6, 7, 30] (fun u v i => ∃ k : Nat, k ≤ n ∧ i = .int .i64 k ∧ u = .int .i64 (sumF (el ws) k) ∧ v = .bool false) (fun _ _ i => n - (intOf i).toNat)
  case atStart => exact ⟨0, Nat.zero_le _, rfl, rfl, rfl⟩
  case round =>
    obtain ⟨k, hk, rfl, rfl, rfl⟩ := hrel
    by_cases hlt : k < n
    · obtain ⟨ad, rfl, hl, hc⟩ := H.out.at_ hlt
      have hy := inB_el HOK.out.ok (show k < ws.length by rw [HL.out]; exact hlt)
      have hp0 := part_bd HOK.out.ok (show k ≤ ws.length by rw [HL.out]; omega)
      have hp1 := part_bd HOK.out.ok (show k + 1 ≤ ws.length by rw [HL.out]; omega)
      have hs1 := HOK.out.s1
      have HS : Hid (sumF (el ws) (k + 1) = sumF (el ws) k + el ws k) := Lib.hid rfl
      rw [show sumF (el ws) (k + 1) = sumF (el ws) k + el ws k from rfl] at hp1
      obtain ⟨y0, y1⟩ := hy
      obtain ⟨p0, p1⟩ := hp0
      obtain ⟨p2, p3⟩ := hp1
      have p4 : ¬ 1152921504606846976 < sumF (el ws) k + el ws k := by omega
      go_wp2
      go_round
      case rel => exact ⟨k + 1, by omega, by go_num, ret_v HS.out.symm, rfl⟩
      case measure => simp [intOf]; try omega
    · obtain rfl : k = n := by omega
      have hs0 := HOK.out.s0
      have hs1 := HOK.out.s1
      have hS : sumF (el ws) k = sumL ws := by unfold sumL; rw [HL.out]
      rw [hS]
      have HSUM := Lib.hid hS
      clear hS
      obtain ⟨S, hSS⟩ : ∃ S : Nat, sumL ws = S := ⟨(sumL ws).toNat, by omega⟩
      rw [hSS] at hs0 hs1 ⊢
      have HSS := Lib.hid hSS
      clear hSS
      have hz : ((S : Int) == 0) = false := by rw [beq_eq_false_iff_ne]; omega
      go_wp2
      go_loopw [10, 11, 12, 56] (fun v f b i wr => ∃ (k' F q : Nat), k' ≤ k ∧ i = .int .i64 k' ∧ f = .int .i64 F ∧ b = .int .i64 q ∧ Hid ((F : Int) = sumF (el ws) k') ∧ Hid ((q : Int) = T * sumF (el ws) k' / sumL ws) ∧ F ≤ S ∧ q ≤ T ∧ Own wr w.heap.size v (fl k' (shF T ws)) ∧ Below w.heap.size w wr) (fun _ _ _ i _ => k - (intOf i).toNat)
      case atStart => exact ⟨0, 0, 0, Nat.zero_le _, rfl, rfl, rfl, rfl, by unfold Hid; simp [sumF], by omega, by omega, HR.out, (Below.refl _ _).alloc (Nat.le_refl _) _⟩
      case round =>
        obtain ⟨j, F, q, hj, rfl, rfl, rfl, hF, hq, hFS, hqT, hown, hbe⟩ := hrel
        have HO := Lib.hid hown
        have HB := Lib.hid hbe
        by_cases hlt2 : j < k
        · obtain ⟨ad, rfl, hl, hc⟩ := (H.out.below hbe).at_ hlt2
          have hy := inB_el HOK.out.ok (show j < ws.length by rw [HL.out]; exact hlt2)
          have hp1 := part_bd HOK.out.ok (show j + 1 ≤ ws.length by rw [HL.out]; omega)
          have hqb := qk_bd HOK.out (show j + 1 ≤ ws.length by rw [HL.out]; omega)
          have hqm := qk_mono HOK.out (show j < ws.length by rw [HL.out]; exact hlt2)
          rw [← hq.out] at hqm
          have hf1 : (F : Int) + el ws j = sumF (el ws) (j + 1) := by rw [hF.out]; rfl
          obtain ⟨F1, hF1⟩ : ∃ F1 : Nat, sumF (el ws) (j + 1) = F1 := ⟨(sumF (el ws) (j + 1)).toNat, by omega⟩
          have hFS1 : F1 ≤ S := by have := hp1.2; rw [HSS.out, hF1] at this; omega
          have hq1 : ((T : Int) * sumF (el ws) (j + 1) / sumL ws) = ((T * F1 / S : Nat) : Int) := by rw [hF1, HSS.out]; norm_cast
          rw [hF1] at hf1
          rw [hq1] at hqb hqm
          have HF1 := Lib.hid hF1
          have HQ1 := Lib.hid hq1
          have c1 := fun W => mul64_calls T F1 (by omega) (by omega) W
          have c2 := fun W => div64_calls (T * F1 / 18446744073709551616) (T * F1 % 18446744073709551616) S (by omega) (quo128_hi (by omega) hFS1 (by omega)) (by omega) W
          simp only [quo128] at c2
          generalize T * F1 / 18446744073709551616 = hi at *
          generalize T * F1 % 18446744073709551616 = lo at *
          generalize T * F1 / S = q1 at *
          generalize (hi * 18446744073709551616 + lo) % S = r1 at *
          have C1 := Lib.hid c1
          have C2 := Lib.hid c2
          obtain ⟨y0, y1⟩ := hy
          obtain ⟨qb0, qb1⟩ := hqb
          clear c1 c2 hF1 hq1 hp1 hown hbe
          generalize el ws j = y at *
          go_wp2_with fail
          refine (C1.out _).mono ?_
          rintro e w1 ⟨rfl, rfl⟩
          go_wp2_with fail
          refine (C2.out _).mono ?_
          rintro e w1 ⟨rfl, d, rfl⟩
          have HO2 := Lib.hid (HO.out.drewN d)
          have HB2 := Lib.hid (below_drewN HB.out d)
          go_wp2_with (at_builtin; refine wpList_append_int _ w.heap.size _ (fl j (shF T ws)) ((q1 : Int) - q) rfl _ _ rfl rfl rfl HO2.out HB2.out.size (by rw [fl_length]; omega) (by omega) ?_)
          intro v' w2 ho hb
          have R1 := Lib.hid (sh_step ho hq.out HQ1.out.symm)
          have R2 := Lib.hid (HB2.out.trans hb)
          have R3 : Hid ((F1 : Int) = sumF (el ws) (j + 1)) := Lib.hid HF1.out.symm
          have R4 : Hid ((q1 : Int) = T * sumF (el ws) (j + 1) / sumL ws) := Lib.hid HQ1.out.symm
          clear ho hb
          go_wp2
          go_roundw
          case rel => exact ⟨j + 1, F1, q1, by omega, by go_num, rfl, rfl, R3, R4, hFS1, by omega, R1.out, R2.out⟩
          case measure => simp [intOf]; try omega
        · obtain rfl : j = k := by omega
          clear hown hbe
          go_wp2
          go_returns
          have := RetL.own (x := 0) HO.out HB.out
          unfold shL
          rw [HL.out]
          exact this

theorem Share_calls {A : Option Addr} {n c : Nat} {ws : List Int} (t : Int) (w : World) (h : Ints w A n c ws) :
    Calls Try.prog 63 #[.int .i64 t, .slice A n c] w (RetL (ShareV t ws).1 (ShareV t ws).2 w) := by
  by_cases hok : ShareOk t ws
  · rw [shareV_ok hok]; exact Share_in t w h hok
  · rw [shareV_no hok]; exact Share_bad t w h hok
end Go.Proofs.Ytfhikdgdckfalaa
