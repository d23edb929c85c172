/- Within and place of the reference: the place of a number in a list. -/
import Derived.Test.YtfhikdgdckfalaaMB07
import Derived.Deep.QuietTactic
import Derived.BigQuiet
namespace Go.Proofs.Ytfhikdgdckfalaa
open Go.RowKit
set_option linter.unusedVariables false

set_option maxRecDepth 100000 in
set_option maxHeartbeats 2000000 in
theorem Within_calls {A : Option Addr} {n c : Nat} {l : List Int} (x : Int) (w : World) (h : Ints w A n c l) (hn : 0 < n) :
    Calls Try.prog 58 #[.slice A n c, .int .i64 x] w fun e w' => e = .returned (.bool (decide (el l 0 ≤ x) && decide (x ≤ el l (n - 1)))) ∧ w = w' := by
  have hcap := h.cap
  have hmax := h.max
  have hfew := h.few
  obtain ⟨ad, rfl, hl, hc⟩ := h.at_ hn
  obtain ⟨ad', eA, hl', hc'⟩ := h.at_ (k := n - 1) (by omega)
  obtain rfl : ad = ad' := by injection eA
  have hc0 : w.cell? ad = some (.int .i64 (el l 0)) := hc
  obtain ⟨t, rfl⟩ : ∃ t, n = t + 1 := ⟨n - 1, by omega⟩
  have ht : t + 1 - 1 = t := by omega
  rw [ht] at hc' ⊢
  have e1 : IntKind.i64.wrap (((t + 1 : Nat) : Int) - 1) = (t : Int) := by rw [show ((t + 1 : Nat) : Int) - 1 = t by omega]; exact IntWalk.i64_in _ (by omega)
  have e2 : IntKind.i64.wrap ((t : Int) + 1 - 1) = (t : Int) := by rw [show (t : Int) + 1 - 1 = t by omega]; exact IntWalk.i64_in _ (by omega)
  generalize el l 0 = a at *
  generalize el l t = b at *
  clear h eA hl' hc
  go_enter Try.func58, Try.ntmps58
  by_cases h1 : a ≤ x
  · by_cases h2 : x ≤ b
    · rw [decide_eq_true h1, decide_eq_true h2]
      go_wp2
      go_ret
      exact ⟨rfl, rfl⟩
    · rw [decide_eq_true h1, decide_eq_false h2]
      go_wp2
      go_ret
      exact ⟨rfl, rfl⟩
  · rw [decide_eq_false h1]
    go_wp2
    go_ret
    exact ⟨rfl, rfl⟩

/-- The index that place finds: the greatest element at most x, but not the last one. -/
def plcI (l : List Int) (x : Int) (i : Nat) : Prop := (i = 0 ∨ i + 1 < l.length ∧ el l i ≤ x) ∧ (l.length ≤ i + 2 ∨ x < el l (i + 1))

set_option maxRecDepth 100000 in
set_option maxHeartbeats 2000000 in
theorem place_calls {A : Option Addr} {n c : Nat} {l : List Int} (x : Int) (w : World) (h : Ints w A n c l) :
    Calls Try.prog 76 #[.slice A n c, .int .i64 x] w fun e w' => ∃ i : Nat, e = .returned (.int .i64 i) ∧ w = w' ∧ plcI l x i := by
  have hcap := h.cap
  have hmax := h.max
  have hfew := h.few
  have HL := Lib.hid h.len
  have H := Lib.hid h
  clear h
  go_enter Try.func76, Try.ntmps76
  go_wp2
  go_loop [5] (fun i => ∃ k : Nat, i = .int .i64 k ∧ (k = 0 ∨ k + 1 < n ∧ el l k ≤ x)) (fun i => n - (intOf i).toNat)
  case atStart => exact ⟨0, rfl, .inl rfl⟩
  case round =>
    obtain ⟨k, rfl, hno⟩ := hrel
    have HN := Lib.hid hno
    have hk : k ≤ n := by omega
    clear hno
    by_cases hlt : k + 2 < n
    · have g1 : (k : Int) + 2 < (n : Int) := by omega
      obtain ⟨ad, rfl, hl, hc⟩ := H.out.at_ (k := k + 1) (by omega)
      obtain ⟨y, hy⟩ : ∃ y, el l (k + 1) = y := ⟨_, rfl⟩
      rw [hy] at hc
      have HX := Lib.hid hy
      clear hy
      have hcx : w.cell? ⟨ad.block, ad.off + (k + 1), none⟩ = some (.int .i64 y) := hc
      by_cases h4 : y ≤ x
      · go_wp2
        go_round
        case rel => exact ⟨k + 1, by go_num, .inr ⟨by omega, by rw [HX.out]; exact h4⟩⟩
        case measure => simp [intOf]; try omega
      · go_wp2
        go_ret
        exact ⟨k, rfl, rfl, by rw [HL.out]; exact HN.out, .inr (by rw [HX.out]; omega)⟩
    · have g1 : ¬ (k : Int) + 2 < (n : Int) := by omega
      go_wp2
      go_ret
      exact ⟨k, rfl, rfl, by rw [HL.out]; exact HN.out, .inl (by rw [HL.out]; omega)⟩
end Go.Proofs.Ytfhikdgdckfalaa
