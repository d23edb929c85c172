/- The sum of bytes: the program's, the reference's. -/
import Derived.Test.YtchnfahgmceohaaMReads03
import Derived.Test.YtchnfahgmceohaaProg
import Derived.WalkKit
import Derived.WalkLawsBesides
import Derived.Handy
import Derived.Deep.QuietTactic
import Derived.BigQuiet
import Derived.Test.YtchnfahgmceohaaMReads00

namespace Go.Proofs.Ytchnfahgmceohaa
open Go.RowKit
set_option linter.unusedVariables false

def sumS (s x : Int) : Int := (31 * s + x + 1) % 4294967296
def sumTo (bs : List Int) : Nat → Int
  | 0 => 7
  | k + 1 => sumS (sumTo bs k) (el bs k)
def sumB (bs : List Int) : Int := sumTo bs bs.length
theorem sumTo_bd (bs : List Int) : ∀ k, 0 ≤ sumTo bs k ∧ sumTo bs k < 4294967296
  | 0 => by rw [sumTo]; omega
  | k + 1 => by rw [sumTo]; unfold sumS; omega

set_option maxHeartbeats 1000000 in
theorem sum_calls {A : Option Addr} {n c : Nat} {bs : List Int} (w : World) (h : Byts w A n c bs) :
    Calls Try.prog 46 #[.slice A n c] w fun e w' => e = .returned (.int .u32 (sumB bs)) ∧ w = w' := by
  have HL := Lib.hid h.len
  have hcap := h.cap
  have hmax := h.max
  have H := Lib.hid h
  clear h
  go_enter Try.func46, Try.ntmps46
  go_wp2
  go_loop [3, 8] (fun s i => ∃ k : Nat, k ≤ n ∧ i = .int .i64 k ∧ s = .int .u32 (sumTo bs k)) (fun _ i => n - (intOf i).toNat)
  case atStart => exact ⟨0, Nat.zero_le _, rfl, rfl⟩
  case round =>
    obtain ⟨k, hk, rfl, rfl⟩ := hrel
    by_cases hlt : k < n
    · obtain ⟨ad, rfl, hl, hc⟩ := H.out.at_ hlt
      obtain ⟨b0, b1⟩ := sumTo_bd bs k
      obtain ⟨r0, r1⟩ := H.out.rngD k
      have HE : Hid (sumTo bs (k + 1) = sumS (sumTo bs k) (el bs k)) := Lib.hid rfl
      generalize sumTo bs k = s at *
      generalize el bs k = x at *
      obtain ⟨M, hM⟩ : ∃ M, IntKind.u32.wrap (31 * s) = M := ⟨_, rfl⟩
      obtain ⟨L, hL⟩ : ∃ L, IntKind.u32.wrap (M + x) = L := ⟨_, rfl⟩
      have hw : IntKind.u32.wrap x = x := IntWalk.u32_in _ (by omega)
      obtain ⟨K, hK⟩ : ∃ K, IntKind.u32.wrap (L + 1) = K := ⟨_, rfl⟩
      have HS : Hid (K = sumS s x) := Lib.hid (by unfold sumS; rw [← hK, ← hL, ← hM]; simp only [IntKind.wrap_u32]; omega)
      go_wp2
      go_round
      case rel => exact ⟨k + 1, by omega, by go_num, by rw [HE.out, ← HS.out]⟩
      case measure => simp [intOf]; try omega
    · obtain rfl : k = n := by omega
      go_wp2
      go_ret
      exact ⟨ret_i (by unfold sumB; rw [HL.out]), rfl⟩

set_option maxHeartbeats 1000000 in
theorem Sum_ref {A : Option Addr} {n c : Nat} {bs : List Int} (w : World) (h : Byts w A n c bs) :
    Calls Try.prog 62 #[.slice A n c] w fun e w' => e = .returned (.int .i64 (sumB bs)) ∧ w = w' := by
  have HL := Lib.hid h.len
  have hcap := h.cap
  have hmax := h.max
  have H := Lib.hid h
  clear h
  go_enter Try.func62, Try.ntmps62
  go_wp2
  go_loop [3, 4] (fun s i => ∃ k : Nat, k ≤ n ∧ i = .int .i64 k ∧ s = .int .i64 (sumTo bs k)) (fun _ i => n - (intOf i).toNat)
  case atStart => exact ⟨0, Nat.zero_le _, rfl, rfl⟩
  case round =>
    obtain ⟨k, hk, rfl, rfl⟩ := hrel
    by_cases hlt : k < n
    · obtain ⟨ad, rfl, hl, hc⟩ := H.out.at_ hlt
      obtain ⟨b0, b1⟩ := sumTo_bd bs k
      obtain ⟨r0, r1⟩ := H.out.rngD k
      have HE : Hid (sumTo bs (k + 1) = sumS (sumTo bs k) (el bs k)) := Lib.hid rfl
      generalize sumTo bs k = s at *
      generalize el bs k = x at *
      go_wp2
      go_round
      case rel => exact ⟨k + 1, by omega, by go_num, by rw [HE.out]; unfold sumS; rfl⟩
      case measure => simp [intOf]; try omega
    · obtain rfl : k = n := by omega
      go_wp2
      go_ret
      exact ⟨ret_i (by unfold sumB; rw [HL.out]), rfl⟩
end Go.Proofs.Ytchnfahgmceohaa

/- slices.Equal at integers says whether two slices read as the same list; a list is looked through for the first element outside a range. -/
namespace Go.Proofs.Ytchnfahgmceohaa
open Go.RowKit
set_option linter.unusedVariables false

theorem take_eq_step {zs ys : List Int} {k : Nat} (hz : k < zs.length) (hy : k < ys.length) (h : zs.take k = ys.take k) (he : el zs k = el ys k) : zs.take (k + 1) = ys.take (k + 1) := by
  rw [take_succ_el zs k hz, take_succ_el ys k hy, h, he]
theorem ne_of_el {zs ys : List Int} {k : Nat} (he : ¬ el zs k = el ys k) : ¬ zs = ys := fun h => he (by rw [h])

set_option maxHeartbeats 1000000 in
theorem equal_calls {A A' : Option Addr} {n c n' c' : Nat} {zs ys : List Int} (w : World) (h : Ints w A n c zs) (h' : Ints w A' n' c' ys) :
    Calls Try.prog 24 #[.slice A n c, .slice A' n' c'] w fun e w' => e = .returned (.bool (decide (zs = ys))) ∧ Below w.heap.size w w' := by
  have hz := h.len
  have hy := h'.len
  have hb := h.cap
  have hb2 := h.max
  have hb' := h'.cap
  have hb2' := h'.max
  by_cases hn : n = n'
  · subst hn
    have H := Lib.hid h
    have H' := Lib.hid h'
    have HZ := Lib.hid hz
    have HY := Lib.hid hy
    clear h h' hz hy
    go_enter Try.func24, Try.ntmps24
    go_wp2
    go_loopw [13] (fun i wr => ∃ k : Nat, k ≤ n ∧ i = .int .i64 k ∧ zs.take k = ys.take k ∧ ∃ d, wr = w.drewN d) (fun i _ => n - (intOf i).toNat)
    case atStart => exact ⟨0, Nat.zero_le _, rfl, rfl, 0, rfl⟩
    case round =>
      obtain ⟨k, hk, rfl, ht, d, rfl⟩ := hrel
      have HT := Lib.hid ht
      clear ht
      by_cases hlt : k < n
      · obtain ⟨ad, rfl, hl, hc⟩ := H.out.at_ hlt
        obtain ⟨ad', rfl, hl', hc'⟩ := H'.out.at_ hlt
        have HE := fun he => take_eq_step (by rw [HZ.out]; exact hlt) (by rw [HY.out]; exact hlt) HT.out he
        have HN := @ne_of_el zs ys k
        have HE' := Lib.hid HE
        have HN' := Lib.hid HN
        clear HE HN
        go_wp2
        go_quiet (fail)
        by_cases he : el zs k = el ys k
        · have he' : ((el zs k : Int) != el ys k) = false := by rw [bne_eq_false_iff_eq]; exact he
          have HEE := Lib.hid he
          clear he
          go_wp2
          go_roundw
          case rel => exact ⟨k + 1, by omega, by go_num, HE'.out HEE.out, _, rfl⟩
          case measure => simp [intOf]; omega
        · have he' : ((el zs k : Int) != el ys k) = true := by rw [bne_iff_ne]; exact he
          have HEE := Lib.hid he
          clear he
          go_wp2
          go_ret
          exact ⟨ret_b (decide_eq_false (HN'.out HEE.out)).symm, below_drewN (below_drewN (Below.refl _ _) _) _⟩
      · go_wp2
        go_ret
        exact ⟨ret_b (Eq.symm (decide_eq_true (by have := HT.out; rwa [List.take_of_length_le (by rw [HZ.out]; omega), List.take_of_length_le (by rw [HY.out]; omega)] at this))), below_drewN (Below.refl _ _) _⟩
  · have hn' : ((n : Int) != n') = true := by rw [bne_iff_ne]; omega
    have HN := Lib.hid (show ¬ zs = ys from fun e => hn (by rw [← hz, ← hy, e]))
    clear hn h h' hz hy
    go_enter Try.func24, Try.ntmps24
    go_wp2
    go_ret
    exact ⟨ret_b (decide_eq_false HN.out).symm, Below.refl _ _⟩
end Go.Proofs.Ytchnfahgmceohaa
