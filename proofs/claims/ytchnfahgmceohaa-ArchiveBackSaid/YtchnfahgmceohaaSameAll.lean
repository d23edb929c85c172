/- SameAll of the reference at records that read the same. -/
import Derived.Test.YtchnfahgmceohaaSers
import Derived.Test.YtchnfahgmceohaaSerR
import Derived.StillTailTactics
namespace Go.Proofs.Ytchnfahgmceohaa
open Go.RowKit
set_option linter.unusedVariables false

set_option maxRecDepth 100000 in
set_option maxHeartbeats 2000000 in
theorem SameAll_ref {A A' : Option Addr} {n c n' c' : Nat} {ss : List SerD} (w : World) (h : Sers w A n c ss) (h' : Sers w A' n' c' ss) :
    Calls Try.prog 18 #[.slice A n c, .slice A' n' c'] w fun e w' => e = .returned (.bool true) ∧ Below w.heap.size w w' := by
  have hcap := h.cap
  have hmax := h.max
  have hcap' := h'.cap
  have hmax' := h'.max
  have hfew := h.few
  obtain rfl : n' = n := by rw [← h.len, ← h'.len]
  have H := Lib.hid h
  have H' := Lib.hid h'
  clear h h'
  go_enter Try.func18, Try.ntmps18
  go_wp2
  go_loopw [5] (fun i wr => ∃ k : Nat, k ≤ n' ∧ i = .int .i64 k ∧ Below w.heap.size w wr) (fun i _ => n' - (intOf i).toNat)
  case atStart => exact ⟨0, Nat.zero_le _, rfl, Below.refl _ _⟩
  case round =>
    obtain ⟨k, hk, rfl, hbe⟩ := hrel
    generalize wr = wo at *
    have HBE := Lib.hid hbe
    by_cases hlt : k < n'
    · obtain ⟨ad, rfl, hl, ⟨A1, n1, c1, q0, q1, q2, qi⟩⟩ := (H.out.below hbe).at_ hlt
      obtain ⟨ad', rfl, hl', ⟨A2, n2, c2, p0, p1, p2, pi⟩⟩ := (H'.out.below hbe).at_ hlt
      have sc := fun W (I : Ints W A1 n1 c1 (sl ss k).ds) (I' : Ints W A2 n2 c2 (sl ss k).ds) => Same_ser (sl ss k).f (sl ss k).st W I I'
      have SC := Lib.hid (sc wo.drew (qi.drewN 1) (pi.drewN 1))
      clear sc qi pi hbe
      generalize (sl ss k).f = ff at *
      generalize (sl ss k).st = st at *
      go_wp2
      refine wp_region_still_tail 8 (by kernel_rfl) (by kernel_rfl) ?_
      simp only [List.take_succ_cons, List.take_zero, List.drop_succ_cons, List.drop_zero]
      repeat still_step
      refine wpStill_nil ?_
      change wpList _ _ _ _ _ wo.drew
      go_wp2_with fail
      refine (SC.out).mono ?_
      rintro e w1 ⟨rfl, b1⟩
      have HB1 := Lib.hid (HBE.out.trans ((show Below wo.heap.size wo w1 from ⟨b1.os, b1.tape, b1.output, b1.size, b1.block⟩).mono HBE.out.size))
      clear b1
      go_wp2
      go_roundw
      case rel => exact ⟨k + 1, by omega, by go_num, HB1.out⟩
      case measure => simp [intOf]; try omega
    · obtain rfl : k = n' := by omega
      clear hbe
      go_wp2
      go_ret
      exact ⟨rfl, HBE.out⟩
end Go.Proofs.Ytchnfahgmceohaa
