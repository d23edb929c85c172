/- slices.Equal at integers says whether two slices read as the same list; a list is looked through for the first element outside a range. -/
import Derived.Test.YtchnfahgmceohaaProg
import Derived.WalkKit
import Derived.WalkLawsBesides
import Derived.Handy
import Derived.Deep.QuietTactic
import Derived.BigQuiet
import Derived.Test.YtchnfahgmceohaaInts
namespace Go.Proofs.Ytchnfahgmceohaa
open Go.RowKit
set_option linter.unusedVariables false

theorem take_eq_step {zs ys : List Int} {k : Nat} (hz : k < zs.length) (hy : k < ys.length) (h : zs.take k = ys.take k) (he : el zs k = el ys k) : zs.take (k + 1) = ys.take (k + 1) := by
  rw [take_succ_el zs k hz, take_succ_el ys k hy, h, he]
theorem ne_of_el {zs ys : List Int} {k : Nat} (he : ¬ el zs k = el ys k) : ¬ zs = ys := fun h => he (by rw [h])

set_option maxHeartbeats 1000000 in
theorem equal_calls {A A' : Option Addr} {n c n' c' : Nat} {zs ys : List Int} (w : World) (h : Ints w A n c zs) (h' : Ints w A' n' c' ys) :
    Calls Try.prog 24 #[.slice A n c, .slice A' n' c'] w fun e w' => e = .returned (.bool (decide (zs = ys))) ∧ Below w.heap.size w w' := by
  have hz := h.len
  have hy := h'.len
  have hb := h.cap
  have hb2 := h.max
  have hb' := h'.cap
  have hb2' := h'.max
  by_cases hn : n = n'
  · subst hn
    have H := Lib.hid h
    have H' := Lib.hid h'
    have HZ := Lib.hid hz
    have HY := Lib.hid hy
    clear h h' hz hy
    go_enter Try.func24, Try.ntmps24
    go_wp2
    go_loopw [13] (fun i wr => ∃ k : Nat, k ≤ n ∧ i = .int .i64 k ∧ zs.take k = ys.take k ∧ ∃ d, wr = w.drewN d) (fun i _ => n - (intOf i).toNat)
    case atStart => exact ⟨0, Nat.zero_le _, rfl, rfl, 0, rfl⟩
    case round =>
      obtain ⟨k, hk, rfl, ht, d, rfl⟩ := hrel
      have HT := Lib.hid ht
      clear ht
      by_cases hlt : k < n
      · obtain ⟨ad, rfl, hl, hc⟩ := H.out.at_ hlt
        obtain ⟨ad', rfl, hl', hc'⟩ := H'.out.at_ hlt
        have HE := fun he => take_eq_step (by rw [HZ.out]; exact hlt) (by rw [HY.out]; exact hlt) HT.out he
        have HN := @ne_of_el zs ys k
        have HE' := Lib.hid HE
        have HN' := Lib.hid HN
        clear HE HN
        go_wp2
        go_quiet (fail)
        by_cases he : el zs k = el ys k
        · have he' : ((el zs k : Int) != el ys k) = false := by rw [bne_eq_false_iff_eq]; exact he
          have HEE := Lib.hid he
          clear he
          go_wp2
          go_roundw
          case rel => exact ⟨k + 1, by omega, by go_num, HE'.out HEE.out, _, rfl⟩
          case measure => simp [intOf]; omega
        · have he' : ((el zs k : Int) != el ys k) = true := by rw [bne_iff_ne]; exact he
          have HEE := Lib.hid he
          clear he
          go_wp2
          go_ret
          exact ⟨ret_b (decide_eq_false (HN'.out HEE.out)).symm, below_drewN (below_drewN (Below.refl _ _) _) _⟩
      · go_wp2
        go_ret
        exact ⟨ret_b (Eq.symm (decide_eq_true (by have := HT.out; rwa [List.take_of_length_le (by rw [HZ.out]; omega), List.take_of_length_le (by rw [HY.out]; omega)] at this))), below_drewN (Below.refl _ _) _⟩
  · have hn' : ((n : Int) != n') = true := by rw [bne_iff_ne]; omega
    have HN := Lib.hid (show ¬ zs = ys from fun e => hn (by rw [← hz, ← hy, e]))
    clear hn h h' hz hy
    go_enter Try.func24, Try.ntmps24
    go_wp2
    go_ret
    exact ⟨ret_b (decide_eq_false HN.out).symm, Below.refl _ _⟩
end Go.Proofs.Ytchnfahgmceohaa
