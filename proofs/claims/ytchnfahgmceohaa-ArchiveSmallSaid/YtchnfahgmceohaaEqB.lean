/- bytes.Equal at slices that read the same. -/
import Derived.Test.YtchnfahgmceohaaOwnB
import Derived.Laws.BytesArg
import Derived.DataReads
import Derived.Handy
namespace Go.Proofs.Ytchnfahgmceohaa
open Go.RowKit
set_option linter.unusedVariables false

theorem spot_none {w : World} {a : Addr} {v : Value} (h : w.cell? (a.add 0) = some v) : a = ⟨a.block, a.off, none⟩ := by
  have h1 : a.add 0 = a := by unfold Addr.add; rw [if_pos rfl]
  rw [h1] at h
  have := World.cell?_spot h
  obtain ⟨b, o, s⟩ := a
  simp only at this
  subst this
  rfl
theorem add_plain0 (b o i : Nat) : (⟨b, o, none⟩ : Addr).add i = ⟨b, o + i, none⟩ := Addr.add_lit b o i
theorem Byts.convert {w : World} {A : Option Addr} {n c : Nat} {bs : List Int} (h : Byts w A n c bs) (src e dst : TypeId) (hs : Try.prog.underlying src = some (.slice e)) (he : Try.prog.underlying e = some (.int .u8)) (hd : Try.prog.underlying dst = some .string) :
    (Go.convert src dst (.slice A n c)).run Try.prog w = .ok (.string (strOfNums bs)) w := by
  by_cases hn : 0 < n
  · obtain ⟨ad, rfl, hl, hc⟩ := h.mem hn
    have hsp := spot_none (hc 0 hn)
    rw [hsp]
    refine run_convert_bytes_arg w src e hs he ad.block ad.off n c bs h.len (fun i hi => ?_) dst hd
    have := hc i hi
    rw [hsp] at this
    rwa [add_plain0] at this
  · obtain rfl : n = 0 := by omega
    have hb : bs = [] := List.eq_nil_of_length_eq_zero h.len
    subst hb
    rw [run_convert_bytes_string w src dst e _ 0 c hs he hd]
    cases A <;> simp [Conv.bytesToString, loadCells]
    all_goals rfl

theorem equalB_same {A A' : Option Addr} {n c n' c' : Nat} {bs : List Int} (w : World) (h : Byts w A n c bs) (h' : Byts w A' n' c' bs) :
    Calls Try.prog 13 #[.slice A n c, .slice A' n' c'] w fun e w' => e = .returned (.bool true) ∧ w = w' := by
  have k1 := h.convert 25 5 9 Try.underlying25 Try.underlying5 Try.underlying9
  have k2 := h'.convert 25 5 9 Try.underlying25 Try.underlying5 Try.underlying9
  generalize strOfNums bs = s at *
  clear h h'
  go_enter Try.func13, Try.ntmps13
  go_wp2
  go_ret
  exact ⟨rfl, rfl⟩
end Go.Proofs.Ytchnfahgmceohaa
