/- bytes.Clone. -/
import Derived.Test.YtchnfahgmceohaaPack
import Derived.Lib.SliceRun
namespace Go.Proofs.Ytchnfahgmceohaa
open Go.RowKit
set_option linter.unusedVariables false

set_option maxRecDepth 100000 in
set_option maxHeartbeats 1000000 in
theorem clone_calls {A : Option Addr} {n c : Nat} {bs : List Int} (w : World) (h : Byts w A n c bs) (hn : n ≤ 2000000) :
    Calls Try.prog 23 #[.slice A n c] w (RetY bs w) := by
  have qT : ∀ (w : World) (a : Option Addr) (n c n' c' : Nat), (binOp .eql 25 (.slice a n c) (.slice none n' c')).run Try.prog w = .ok (.bool a.isNone) w := fun w a n c n' c' => Lib.run_eql_slice_nil w _ _ a n c n' c' Try.underlying25
  have hl := h.len
  have hcap := h.cap
  cases A with
  | none =>
    have hc := h.nl rfl
    obtain rfl : c = 0 := hc
    obtain rfl : n = 0 := by omega
    have hb : bs = [] := List.eq_nil_of_length_eq_zero hl
    subst hb
    clear h
    go_enter Try.func23, Try.ntmps23
    go_wp2
    go_ret
    exact ⟨_, rfl, OwnB.nil _ _, Below.refl _ _⟩
  | some ad =>
    have hb0 : Below w.heap.size w (w.alloc (.cells #[] 5)) := (Below.refl _ _).alloc (Nat.le_refl _) _
    have H := Lib.hid (h.below hb0)
    have O := Lib.hid (OwnB.empty w w.heap.size (Nat.le_refl _))
    have HB := Lib.hid hb0
    clear h hb0
    go_enter Try.func23, Try.ntmps23
    go_wp2_with (at_builtin; refine wpList_append_bytes _ w.heap.size _ [] (some ad) n c bs rfl _ _ rfl rfl rfl O.out (by simp) H.out (by simp; omega) ?_)
    intro v' w1 ho hb
    have HO := Lib.hid ho
    have HB1 := Lib.hid (HB.out.trans hb)
    clear ho hb
    go_wp2
    go_ret
    exact ⟨_, rfl, HO.out, HB1.out⟩
end Go.Proofs.Ytchnfahgmceohaa
