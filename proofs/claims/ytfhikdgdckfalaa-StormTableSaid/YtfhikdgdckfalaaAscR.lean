/- ascends of the reference: the numbers ascend strictly between 1 and m. -/
import Derived.Test.YtfhikdgdckfalaaMB05
import Derived.Deep.QuietTactic
import Derived.BigQuiet
namespace Go.Proofs.Ytfhikdgdckfalaa
open Go.RowKit
set_option linter.unusedVariables false

/-- Numbers between 1 and m that ascend strictly. -/
def AscV (l : List Int) (m : Int) : Prop := (∀ j, j < l.length → 1 ≤ el l j ∧ el l j ≤ m) ∧ ∀ j, j + 1 < l.length → el l j < el l (j + 1)

set_option maxRecDepth 100000 in
set_option maxHeartbeats 2000000 in
theorem ascR_calls {A : Option Addr} {n c : Nat} {l : List Int} (m : Int) (w : World) (h : Ints w A n c l) (hm : 0 ≤ m ∧ m ≤ 10000000) :
    Calls Try.prog 74 #[.slice A n c, .int .i64 m] w fun e w' => ∃ b, e = .returned (.bool b) ∧ Below w.heap.size w w' ∧ (b = true ↔ AscV l m) := by
  have hcap := h.cap
  have hmax := h.max
  have hfew := h.few
  have HL := Lib.hid h.len
  have H := Lib.hid h
  clear h
  go_enter Try.func74, Try.ntmps74
  go_wp2
  go_loopw [5] (fun i wr => ∃ k : Nat, k ≤ n ∧ i = .int .i64 k ∧ (∀ j, j < k → 1 ≤ el l j ∧ el l j ≤ m) ∧ (∀ j, j + 1 < k → el l j < el l (j + 1)) ∧ ∃ d, wr = w.drewN d) (fun i _ => n - (intOf i).toNat)
  case atStart => exact ⟨0, Nat.zero_le _, rfl, fun j hj => absurd hj (by omega), fun j hj => absurd hj (by omega), 0, rfl⟩
  case round =>
    obtain ⟨k, hk, rfl, hno, hno2, d, rfl⟩ := hrel
    have HN := Lib.hid hno
    have HN2 := Lib.hid hno2
    clear hno hno2
    have HB := Lib.hid (fun (d : Nat) => below_drewN (Below.refl w.heap.size w) d)
    by_cases hlt : k < n
    · obtain ⟨ad, rfl, hl, hc⟩ := H.out.at_ hlt
      obtain ⟨x, hx⟩ : ∃ x, el l k = x := ⟨_, rfl⟩
      rw [hx] at hc
      have HX := Lib.hid hx
      clear hx
      have hr : (0 : Int) ≤ (k : Int) ∧ (k : Int) < (n : Int) := by omega
      obtain ⟨hr0, hr1⟩ := hr
      by_cases h1 : x < 1
      · have g1 : decide (x < 1) = true := decide_eq_true h1
        go_wp2
        go_quiet (fail)
        go_wp2
        go_ret
        exact ⟨false, rfl, below_drewN (HB.out _) _, by simp, fun a => by have := (a.1 k (by rw [HL.out]; exact hlt)).1; rw [HX.out] at this; omega⟩
      have g1 : decide (x < 1) = false := decide_eq_false h1
      by_cases h2 : m < x
      · have g2 : decide (m < x) = true := decide_eq_true h2
        go_wp2
        go_quiet (fail)
        go_wp2
        go_ret
        exact ⟨false, rfl, below_drewN (HB.out _) _, by simp, fun a => by have := (a.1 k (by rw [HL.out]; exact hlt)).2; rw [HX.out] at this; omega⟩
      have g2 : decide (m < x) = false := decide_eq_false h2
      by_cases h3 : k = 0
      · subst h3
        have hc0 : w.cell? ad = some (.int .i64 x) := hc
        go_wp2
        go_quiet (fail)
        go_wp2
        go_roundw
        case rel => exact ⟨1, by omega, by go_num, fun j hj => by
          obtain rfl : j = 0 := by omega
          rw [HX.out]; omega, fun j hj => by omega, _, rfl⟩
        case measure => simp [intOf]; try omega
      obtain ⟨t, rfl⟩ : ∃ t, k = t + 1 := ⟨k - 1, by omega⟩
      obtain ⟨ad', eA, hl', hc'⟩ := H.out.at_ (k := t) (by omega)
      obtain rfl : ad = ad' := by injection eA
      obtain ⟨y, hy⟩ : ∃ y, el l t = y := ⟨_, rfl⟩
      rw [hy] at hc'
      have HY := Lib.hid hy
      have e1 : IntKind.i64.wrap (((t + 1 : Nat) : Int) - 1) = (t : Int) := by rw [show ((t + 1 : Nat) : Int) - 1 = t by omega]; exact IntWalk.i64_in _ (by omega)
      have e2 : IntKind.i64.wrap ((t : Int) + 1 - 1) = (t : Int) := by rw [show (t : Int) + 1 - 1 = t by omega]; exact IntWalk.i64_in _ (by omega)
      have hcx : w.cell? ⟨ad.block, ad.off + (t + 1), none⟩ = some (.int .i64 x) := hc
      have g3 : decide ((0 : Int) < (t : Int) + 1) = true := decide_eq_true (by omega)
      have g4 : (0 : Int) ≤ (t : Int) ∧ (t : Int) < (n : Int) := by omega
      obtain ⟨g5, g6⟩ := g4
      clear hy eA
      by_cases h4 : x ≤ y
      · have g7 : decide (x ≤ y) = true := decide_eq_true h4
        go_wp2
        go_quiet (fail)
        go_wp2
        go_ret
        exact ⟨false, rfl, below_drewN (HB.out _) _, by simp, fun a => by have := a.2 t (by rw [HL.out]; exact hlt); rw [HX.out, HY.out] at this; omega⟩
      · have g7 : decide (x ≤ y) = false := decide_eq_false h4
        go_wp2
        go_quiet (fail)
        go_wp2
        go_roundw
        case rel => exact ⟨t + 1 + 1, by omega, by go_num, fun j hj => by
          by_cases hjk : j = t + 1
          · subst hjk; rw [HX.out]; omega
          · exact HN.out j (by omega), fun j hj => by
          by_cases hjk : j = t
          · subst hjk; rw [HX.out, HY.out]; omega
          · exact HN2.out j (by omega), _, rfl⟩
        case measure => simp [intOf]; try omega
    · have hkn : k = n := by omega
      subst hkn
      go_wp2
      go_ret
      exact ⟨true, rfl, HB.out _, fun _ => ⟨fun j hj => HN.out j (by rw [HL.out] at hj; exact hj), fun j hj => HN2.out j (by rw [HL.out] at hj; exact hj)⟩, fun _ => rfl⟩
end Go.Proofs.Ytfhikdgdckfalaa
