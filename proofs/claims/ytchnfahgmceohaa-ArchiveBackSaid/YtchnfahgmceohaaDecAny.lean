/- Decode at any bytes, none let in. -/
import Derived.Test.YtchnfahgmceohaaDec
namespace Go.Proofs.Ytchnfahgmceohaa
open Go.RowKit
set_option linter.unusedVariables false

theorem Byts.lt_ {w : World} {A : Option Addr} {n c : Nat} {bs : List Int} (h : Byts w A n c bs) (hn : 0 < n) : ∀ ad, A = some ad → ad.block < w.heap.size := fun ad e => by
  obtain ⟨ad', e', hl, -⟩ := h.at_ hn
  rw [e] at e'
  injection e' with e'
  rw [e']; exact hl
set_option maxRecDepth 100000 in
set_option maxHeartbeats 1000000 in
theorem Decode_any {A : Option Addr} {n c : Nat} {bs : List Int} (w : World) (h : Byts w A n c bs) :
    Calls Try.prog 17 #[.slice A n c] w (RetD (decL bs) w) := by
  by_cases hn : 0 < n
  · exact Decode_calls w h (h.lt_ hn)
  · obtain rfl : n = 0 := by omega
    have hb : bs = [] := List.eq_nil_of_length_eq_zero h.len
    subst hb
    have hpre : ¬ ([] : List Int).take 3 = [82, 65, 1] := by simp
    have hV : decL [] = ([], 7) := by unfold decL; rw [if_neg (by simp), if_pos hpre]
    rw [hV]
    have hd := head_calls w
    have HD := Lib.hid hd
    have H := Lib.hid h
    have hcap := h.cap
    have hmax := h.max
    clear hd h hV
    go_enter Try.func17, Try.ntmps17
    go_wp2_with fail
    refine (HD.out).mono ?_
    rintro e w1 ⟨v, rfl, ho, hb⟩
    obtain ⟨A3, n3, c3, rfl, hi3, -⟩ := ho.ints
    obtain rfl : n3 = 3 := hi3.len.symm
    have cp := cutPrefix_no w1 (H.out.below hb) hi3 hpre
    have CP := Lib.hid cp
    have HB := Lib.hid hb
    clear cp ho hi3 hb
    go_wp2_with fail
    refine (CP.out).mono ?_
    rintro e w2 ⟨rfl, rfl⟩
    go_wp2
    go_returns
    exact RetD.none_ HB.out
end Go.Proofs.Ytchnfahgmceohaa
