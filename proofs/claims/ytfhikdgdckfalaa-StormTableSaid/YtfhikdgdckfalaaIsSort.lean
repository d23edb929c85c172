/- slices.IsSortedFunc with the closure of the law StormTable: a list that it calls sorted descends. -/
import Derived.Test.YtfhikdgdckfalaaAltLaw
import Derived.BigQuiet
namespace Go.Proofs.Ytfhikdgdckfalaa
open Go.RowKit
set_option linter.unusedVariables false

theorem desc1_calls (x y : Int) (w : World) (hx : 0 ≤ x ∧ x ≤ 4194304) (hy : 0 ≤ y ∧ y ≤ 4194304) :
    Calls Try.prog 30 #[.int .i64 x, .int .i64 y] w fun e w' => e = .returned (.int .i64 (y - x)) ∧ w = w' := by
  go_enter Try.func30, Try.ntmps30
  go_wp2
  go_ret
  exact ⟨rfl, rfl⟩
/-- It answers; where it answers true, the list descends. -/
def DesR (zs : List Int) (w : World) (e : Ending) (w' : World) : Prop := ∃ b, e = .returned (.bool b) ∧ (b = true → DesL zs) ∧ ∃ d, w' = w.drewN d

set_option maxRecDepth 100000 in
set_option maxHeartbeats 2000000 in
theorem isSorted_calls {A : Option Addr} {n c : Nat} {zs : List Int} (w : World) (h : Ints w A n c zs) (hz : ∀ k, k < zs.length → 0 ≤ el zs k ∧ el zs k ≤ 4194304) (h1 : 1 ≤ n) (hn : n ≤ 10000) :
    Calls Try.prog 29 #[.slice A n c, .func (.func 30) #[] #[]] w (DesR zs w) := by
  have hcap := h.cap
  have hmax := h.max
  have HL := Lib.hid h.len
  have HZ := Lib.hid (fun k (hk : k < n) => hz k (by rw [h.len]; exact hk))
  have H := Lib.hid h
  clear h hz
  obtain ⟨m, hm⟩ : ∃ m, n = m + 1 := ⟨n - 1, by omega⟩
  have em : (n : Int) - 1 = (m : Int) := by omega
  have HM := Lib.hid hm
  clear hm
  go_enter Try.func29, Try.ntmps29
  go_wp2
  go_loopw [5] (fun vi wr => ∃ i d : Nat, vi = .int .i64 i ∧ Hid (i ≤ m) ∧ Hid (wr = w.drewN d) ∧ Hid (∀ j, i ≤ j → j < m → el zs (j + 1) ≤ el zs j)) (fun vi _ => (intOf vi).toNat)
  case atStart => exact ⟨m, 0, by go_num, Lib.hid (Nat.le_refl _), Lib.hid rfl, Lib.hid fun j a b => absurd b (by omega)⟩
  case round =>
    obtain ⟨i, d, rfl, hi, hw, hde⟩ := hrel
    have I := Lib.hid (show Ints wr A n c zs by rw [hw.out]; exact H.out.drewN d)
    generalize wr = wq at *
    by_cases h0 : 0 < i
    · obtain ⟨q, hq⟩ : ∃ q, i = q + 1 := ⟨i - 1, by omega⟩
      have HQ := Lib.hid hq
      have hi' := hi.out
      have hm' := HM.out
      obtain ⟨ad, rfl, hl, hc⟩ := I.out.at_ (k := i) (by omega)
      obtain ⟨ad', e', -, hc'⟩ := I.out.at_ (k := q) (by omega)
      obtain rfl : ad = ad' := by injection e'
      have b1 := HZ.out i (by omega)
      have b2 := HZ.out q (by omega)
      have NX : Hid (el zs i ≤ el zs q → ∀ j, q ≤ j → j < m → el zs (j + 1) ≤ el zs j) := Lib.hid fun hle j a b => by
        by_cases e : j = q
        · subst e; rw [← hq]; exact hle
        · exact hde.out j (by omega) b
      generalize el zs i = x at *
      generalize el zs q = y at *
      obtain ⟨D, hD⟩ : ∃ D, y - x = D := ⟨_, rfl⟩
      have DC : Hid (∀ t, Calls Try.prog 30 #[.int .i64 x, .int .i64 y] (wq.drewN t) fun e w'' => e = .returned (.int .i64 D) ∧ ∃ m, w'' = wq.drewN m) := Lib.hid fun t => (desc1_calls x y (wq.drewN t) b1 b2).mono fun e w' h => ⟨by rw [h.1, hD], t, h.2.symm⟩
      have g1 : decide ((0 : Int) < (i : Int)) = true := decide_eq_true (by omega)
      have g2 : decide (0 < i) = true := decide_eq_true (by omega)
      have eiq : (i : Int) - 1 = (q : Int) := by omega
      have bi : (i : Int) < (n : Int) := by omega
      have bq : (q : Int) < (n : Int) := by omega
      have ri : IntKind.i64.wrap (i : Int) = (i : Int) := IntWalk.i64_in _ (by omega)
      have rq : IntKind.i64.wrap (q : Int) = (q : Int) := IntWalk.i64_in _ (by omega)
      clear hq hm' hi'
      clear e'
      by_cases hg : D < 0
      · have hg1 : decide (D < 0) = true := decide_eq_true hg
        clear hD
        go_wp2_with fail
        go_quiet ((go_at_call 30; exact DC.out _))
        go_wp2
        go_ret
        exact ⟨false, rfl, (fun h => by cases h), d + nq, by rw [hw.out, World.drewN_drewN]⟩
      · have hg1 : decide (D < 0) = false := decide_eq_false hg
        have NX1 := Lib.hid (NX.out (by omega))
        clear hD NX
        go_wp2_with fail
        go_quiet ((go_at_call 30; exact DC.out _))
        go_wp2
        go_roundw
        case rel => exact ⟨q, d + nq, by go_num, Lib.hid (by have := hi.out; have := HQ.out; omega), Lib.hid (by rw [hw.out, World.drewN_drewN]), NX1.out⟩
        case measure => have := HQ.out; simp [intOf]; try omega
    · obtain rfl : i = 0 := by omega
      have FIN : Hid (DesL zs) := Lib.hid (desL_of fun j hj => hde.out j (Nat.zero_le _) (by rw [HL.out] at hj; have := HM.out; omega))
      clear hde
      go_wp2
      go_ret
      exact ⟨true, rfl, fun _ => FIN.out, d, hw.out⟩
end Go.Proofs.Ytfhikdgdckfalaa
