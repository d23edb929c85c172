/- Greatest of the reference: the greatest sum of k neighbouring depths. -/
import Derived.Test.YtfhikdgdckfalaaAltLaw
namespace Go.Proofs.Ytfhikdgdckfalaa
open Go.RowKit
set_option linter.unusedVariables false

theorem slF_bd {zs : List Int} (hz : ∀ z ∈ zs, z ≤ 4194304) (hn : zs.length ≤ 10000) {k i : Nat} (hi : i ≤ zs.length) : 0 ≤ slF (sumF (mx0 zs)) k i ∧ slF (sumF (mx0 zs)) k i ≤ 41943040000 := by
  have h := run_bd hz (i := i - k) (k := i - (i - k)) (by omega) hn
  unfold runV at h
  rw [show i - k + (i - (i - k)) = i by omega] at h
  exact h
theorem grV_bd {zs : List Int} (hz : ∀ z ∈ zs, z ≤ 4194304) (hn : zs.length ≤ 10000) {k : Nat} : ∀ {i : Nat}, i ≤ zs.length → 0 ≤ grV (sumF (mx0 zs)) k i ∧ grV (sumF (mx0 zs)) k i ≤ 41943040000
  | 0, _ => by rw [grV]; omega
  | i + 1, hi => by
    have h1 := grV_bd hz hn (k := k) (i := i) (by omega)
    have h2 := slF_bd hz hn (k := k) hi
    rw [grV]; split <;> omega
theorem slF_near (F G : Nat → Int) (hF : ∀ i, F (i + 1) = F i + G i) {k i : Nat} (h : i < k) : slF F k (i + 1) = slF F k i + G i := by
  unfold slF; rw [show i + 1 - k = 0 by omega, show i - k = 0 by omega, hF]; omega
theorem slF_far (F G : Nat → Int) (hF : ∀ i, F (i + 1) = F i + G i) {k i j : Nat} (h : j + k = i) : slF F k (i + 1) = slF F k i + G i - G j := by
  unfold slF; rw [show i + 1 - k = j + 1 by omega, show i - k = j by omega, hF, hF]; omega
theorem grV_up {F : Nat → Int} {k i : Nat} {s : Int} (hs : slF F k (i + 1) = s) (h : grV F k i < s) : grV F k (i + 1) = s := by
  rw [grV, hs, if_pos h]
theorem grV_stay {F : Nat → Int} {k i : Nat} {s : Int} (hs : slF F k (i + 1) = s) (h : ¬ grV F k i < s) : grV F k (i + 1) = grV F k i := by
  rw [grV, hs, if_neg h]

set_option maxRecDepth 100000 in
set_option maxHeartbeats 4000000 in
theorem Greatest_calls {A : Option Addr} {n c : Nat} {zs : List Int} (k : Nat) (w : World) (h : Ints w A n c zs) (hz : ∀ z ∈ zs, z ≤ 4194304) (hn : n ≤ 10000) (hk : 1 ≤ k) (hkn : k ≤ n) :
    Calls Try.prog 32 #[.slice A n c, .int .i64 k] w fun e w' => e = .returned (.int .i64 (grL zs k)) ∧ w = w' := by
  have hcap := h.cap
  have hmax := h.max
  have HL := Lib.hid h.len
  have RG := Lib.hid (fun j (hj : j < n) => h.rng (el zs j) (el_mem (by rw [h.len]; exact hj)))
  have HZ := Lib.hid (fun j (hj : j < n) => hz (el zs j) (el_mem (by rw [h.len]; exact hj)))
  have SB := Lib.hid (fun i (hi : i ≤ n) => slF_bd (k := k) hz (by rw [h.len]; exact hn) (show i ≤ zs.length by rw [h.len]; exact hi))
  have GB := Lib.hid (fun i (hi : i ≤ n) => grV_bd (k := k) hz (by rw [h.len]; exact hn) (show i ≤ zs.length by rw [h.len]; exact hi))
  have H := Lib.hid h
  have hF := Lib.hid (show ∀ i, sumF (mx0 zs) (i + 1) = sumF (mx0 zs) i + mx0 zs i from fun _ => rfl)
  have MP := Lib.hid (show ∀ i, mx0 zs i = pz (el zs i) from fun _ => rfl)
  have FIN : Hid (grL zs k = grV (sumF (mx0 zs)) k n) := Lib.hid (by unfold grL; rw [h.len])
  clear h hz
  generalize sumF (mx0 zs) = F at *
  go_enter Try.func32, Try.ntmps32
  go_wp2
  go_loop [5, 6, 7] (fun vo vs vi => ∃ (i : Nat) (o s : Int), i ≤ n ∧ vi = .int .i64 i ∧ vo = .int .i64 o ∧ vs = .int .i64 s ∧ Hid (o = grV F k i) ∧ Hid (s = slF F k i)) (fun _ _ vi => n - (intOf vi).toNat)
  case atStart => exact ⟨0, 0, 0, Nat.zero_le _, rfl, rfl, rfl, Lib.hid rfl, Lib.hid (by unfold slF; rw [Nat.zero_sub]; omega)⟩
  case round =>
    obtain ⟨i, o, s, hi, rfl, rfl, rfl, ho, hs⟩ := hrel
    have b1 := GB.out i hi
    have b2 := SB.out i hi
    rw [← ho.out] at b1
    rw [← hs.out] at b2
    by_cases hlt : (i : Int) < (n : Int)
    · obtain ⟨ad, rfl, hl, hc⟩ := H.out.at_ (k := i) (by omega)
      have r1 := RG.out i (by omega)
      have b3 := SB.out (i + 1) (by omega)
      by_cases hik : (i : Int) < (k : Int)
      · have e1 := slF_near F (mx0 zs) hF.out (k := k) (i := i) (by omega)
        rw [MP.out, ← hs.out] at e1
        rw [e1] at b3
        have NS := Lib.hid e1
        clear e1
        have b4 := HZ.out i (by omega)
        generalize el zs i = x at *
        by_cases hx : 0 < x
        · have ex : pz x = x := by unfold pz; rw [if_neg (by omega)]
          rw [ex] at NS b3
          by_cases hg : o < s + x
          · have NO := Lib.hid (grV_up NS.out (show grV F k i < s + x by rw [← ho.out]; exact hg))
            clear ex
            go_wp2
            go_round
            case rel => exact ⟨i + 1, s + x, s + x, by omega, by go_num, by first | rfl | (congr 1; omega), by first | rfl | (congr 1; omega), Lib.hid NO.out.symm, Lib.hid NS.out.symm⟩
            case measure => simp [intOf]; try omega
          · have NO := Lib.hid (grV_stay NS.out (show ¬ grV F k i < s + x by rw [← ho.out]; exact hg))
            clear ex
            go_wp2
            go_round
            case rel => exact ⟨i + 1, o, s + x, by omega, by go_num, by first | rfl | (congr 1; omega), by first | rfl | (congr 1; omega), Lib.hid (ho.out.trans NO.out.symm), Lib.hid NS.out.symm⟩
            case measure => simp [intOf]; try omega
        · have ex : pz x = 0 := by unfold pz; split <;> omega
          rw [ex, Int.add_zero] at NS
          by_cases hg : o < s
          · have NO := Lib.hid (grV_up NS.out (show grV F k i < s by rw [← ho.out]; exact hg))
            clear ex
            go_wp2
            go_round
            case rel => exact ⟨i + 1, s, s, by omega, by go_num, by first | rfl | (congr 1; omega), by first | rfl | (congr 1; omega), Lib.hid NO.out.symm, Lib.hid NS.out.symm⟩
            case measure => simp [intOf]; try omega
          · have NO := Lib.hid (grV_stay NS.out (show ¬ grV F k i < s by rw [← ho.out]; exact hg))
            clear ex
            go_wp2
            go_round
            case rel => exact ⟨i + 1, o, s, by omega, by go_num, by first | rfl | (congr 1; omega), by first | rfl | (congr 1; omega), Lib.hid (ho.out.trans NO.out.symm), Lib.hid NS.out.symm⟩
            case measure => simp [intOf]; try omega
      · obtain ⟨j, hj⟩ : ∃ j, j + k = i := ⟨i - k, by omega⟩
        have e1 := slF_far F (mx0 zs) hF.out (k := k) (i := i) (j := j) hj
        rw [MP.out, MP.out, ← hs.out] at e1
        rw [e1] at b3
        have NS := Lib.hid e1
        clear e1
        obtain ⟨ad', e', -, hc'⟩ := H.out.at_ (k := j) (by omega)
        obtain rfl : ad = ad' := by injection e'
        have r2 := RG.out j (by omega)
        have b4 := HZ.out i (by omega)
        have b5 := HZ.out j (by omega)
        have ej : (i : Int) - (k : Int) = (j : Int) := by omega
        have hjn : (j : Int) < (n : Int) := by omega
        generalize el zs i = x at *
        generalize el zs j = y at *
        clear e'
        by_cases hx : 0 < x
        · have ex : pz x = x := by unfold pz; rw [if_neg (by omega)]
          rw [ex] at NS b3
          by_cases hy : 0 < y
          · have ey : pz y = y := by unfold pz; rw [if_neg (by omega)]
            rw [ey] at NS b3
            by_cases hg : o < s + x - y
            · have NO := Lib.hid (grV_up NS.out (show grV F k i < s + x - y by rw [← ho.out]; exact hg))
              clear ex ey
              go_wp2
              go_round
              case rel => exact ⟨i + 1, s + x - y, s + x - y, by omega, by go_num, by first | rfl | (congr 1; omega), by first | rfl | (congr 1; omega), Lib.hid NO.out.symm, Lib.hid NS.out.symm⟩
              case measure => simp [intOf]; try omega
            · have NO := Lib.hid (grV_stay NS.out (show ¬ grV F k i < s + x - y by rw [← ho.out]; exact hg))
              clear ex ey
              go_wp2
              go_round
              case rel => exact ⟨i + 1, o, s + x - y, by omega, by go_num, by first | rfl | (congr 1; omega), by first | rfl | (congr 1; omega), Lib.hid (ho.out.trans NO.out.symm), Lib.hid NS.out.symm⟩
              case measure => simp [intOf]; try omega
          · have ey : pz y = 0 := by unfold pz; split <;> omega
            rw [ey, Int.sub_zero] at NS
            rw [ey, Int.sub_zero] at b3
            by_cases hg : o < s + x
            · have NO := Lib.hid (grV_up NS.out (show grV F k i < s + x by rw [← ho.out]; exact hg))
              clear ex ey
              go_wp2
              go_round
              case rel => exact ⟨i + 1, s + x, s + x, by omega, by go_num, by first | rfl | (congr 1; omega), by first | rfl | (congr 1; omega), Lib.hid NO.out.symm, Lib.hid NS.out.symm⟩
              case measure => simp [intOf]; try omega
            · have NO := Lib.hid (grV_stay NS.out (show ¬ grV F k i < s + x by rw [← ho.out]; exact hg))
              clear ex ey
              go_wp2
              go_round
              case rel => exact ⟨i + 1, o, s + x, by omega, by go_num, by first | rfl | (congr 1; omega), by first | rfl | (congr 1; omega), Lib.hid (ho.out.trans NO.out.symm), Lib.hid NS.out.symm⟩
              case measure => simp [intOf]; try omega
        · have ex : pz x = 0 := by unfold pz; split <;> omega
          rw [ex, Int.add_zero] at NS b3
          by_cases hy : 0 < y
          · have ey : pz y = y := by unfold pz; rw [if_neg (by omega)]
            rw [ey] at NS b3
            by_cases hg : o < s - y
            · have NO := Lib.hid (grV_up NS.out (show grV F k i < s - y by rw [← ho.out]; exact hg))
              clear ex ey
              go_wp2
              go_round
              case rel => exact ⟨i + 1, s - y, s - y, by omega, by go_num, by first | rfl | (congr 1; omega), by first | rfl | (congr 1; omega), Lib.hid NO.out.symm, Lib.hid NS.out.symm⟩
              case measure => simp [intOf]; try omega
            · have NO := Lib.hid (grV_stay NS.out (show ¬ grV F k i < s - y by rw [← ho.out]; exact hg))
              clear ex ey
              go_wp2
              go_round
              case rel => exact ⟨i + 1, o, s - y, by omega, by go_num, by first | rfl | (congr 1; omega), by first | rfl | (congr 1; omega), Lib.hid (ho.out.trans NO.out.symm), Lib.hid NS.out.symm⟩
              case measure => simp [intOf]; try omega
          · have ey : pz y = 0 := by unfold pz; split <;> omega
            rw [ey, Int.sub_zero] at NS
            by_cases hg : o < s
            · have NO := Lib.hid (grV_up NS.out (show grV F k i < s by rw [← ho.out]; exact hg))
              clear ex ey
              go_wp2
              go_round
              case rel => exact ⟨i + 1, s, s, by omega, by go_num, by first | rfl | (congr 1; omega), by first | rfl | (congr 1; omega), Lib.hid NO.out.symm, Lib.hid NS.out.symm⟩
              case measure => simp [intOf]; try omega
            · have NO := Lib.hid (grV_stay NS.out (show ¬ grV F k i < s by rw [← ho.out]; exact hg))
              clear ex ey
              go_wp2
              go_round
              case rel => exact ⟨i + 1, o, s, by omega, by go_num, by first | rfl | (congr 1; omega), by first | rfl | (congr 1; omega), Lib.hid (ho.out.trans NO.out.symm), Lib.hid NS.out.symm⟩
              case measure => simp [intOf]; try omega
    · obtain rfl : i = n := by omega
      have HV : Hid (o = grL zs k) := Lib.hid (by rw [FIN.out, ho.out])
      go_wp2
      go_ret
      exact ⟨ret_i HV.out, rfl⟩
end Go.Proofs.Ytfhikdgdckfalaa
