/- After of the reference. -/
import Derived.Test.YtihaabdgligbbaaStep
namespace Go.Proofs.Ytihaabdgligbbaa
open Go.RowKit
set_option linter.unusedVariables false

set_option maxHeartbeats 1000000 in
theorem Years_ref {A A' : Option Addr} {n c n' c' : Nat} {ts : List (List Int)} {l : List Int} (y : Nat) (w : World) (h : Tab w A n c ts) (h' : Ints w A' n' c' l) (ok : YearOk ts l) (hy : (y : Int) ≤ 200) :
    Calls Try.prog 52 #[.slice A n c, .slice A' n' c', .int .i64 y] w (Ret1 (yearsL ts l y) w) := by
  have OK := Lib.hid ok
  have H := Lib.hid h
  have HL' := Lib.hid h'.len
  have hcap := h.cap
  have hmax := h.max
  have hcap' := h'.cap
  have hmax' := h'.max
  have hfew' := h'.few
  have HI' := Lib.hid (h'.alloc (.cells #[] 3))
  clear h h' ok
  go_enter Try.func52, Try.ntmps52
  go_wp2_with (at_builtin; refine wpList_append_ints _ w.heap.size _ [] A' n' c' l rfl _ _ rfl rfl rfl (Own.empty w w.heap.size (Nat.le_refl _)) (by simp) HI'.out (by rw [HL'.out]; simp; omega) ?_)
  intro v w2 ho hb
  obtain ⟨B, m, d, rfl, hi, hf⟩ := ho.ints
  have hm : m = n' := by rw [← hi.len, HL'.out]
  subst hm
  have HI := Lib.hid hi
  have HF := Lib.hid hf
  have HB := Lib.hid (((Below.refl w.heap.size w).alloc (Nat.le_refl _) (.cells #[] 3)).trans hb)
  clear hi hf hb ho
  go_wp2
  go_loopw [7, 8] (fun s i wr => ∃ (k : Nat) (B : Option Addr) (d : Nat), k ≤ y ∧ i = .int .i64 k ∧ s = .slice B m d ∧ Ints wr B m d (yearsL ts l k) ∧ (∀ ad, B = some ad → w.heap.size ≤ ad.block) ∧ Below w.heap.size w wr) (fun _ i _ => y - (intOf i).toNat)
  case atStart => exact ⟨0, _, _, Nat.zero_le _, rfl, rfl, HI.out, HF.out, HB.out⟩
  case round =>
    obtain ⟨k, B2, d2, hk, rfl, rfl, hi2, hf2, hb2⟩ := hrel
    have HI2 := Lib.hid hi2
    have HF2 := Lib.hid hf2
    have HB2 := Lib.hid hb2
    by_cases hlt : k < y
    · have yr := Year_ref wr (H.out.below hb2) hi2 (OK.out.years k).1
      have Y := Lib.hid yr
      clear yr hi2 hf2 hb2
      go_wp2_with fail
      refine Y.out.mono ?_
      rintro e w3 ⟨B3, m3, d3, rfl, hi3, hb3, hf3⟩
      have hm3 : m3 = m := by rw [← hi3.len, yearL_length, (OK.out.years k).2.1, HL'.out]
      subst hm3
      have HI3 := Lib.hid hi3
      have HF3 : Hid (∀ ad, B3 = some ad → w.heap.size ≤ ad.block) := Lib.hid fun ad e => Nat.le_trans HB2.out.size (hf3 ad e)
      have HB3 := Lib.hid (below_then HB2.out hb3 HB2.out.size)
      clear hi3 hb3 hf3
      go_wp2
      go_roundw
      case rel => exact ⟨k + 1, _, _, by omega, by go_num, rfl, HI3.out, HF3.out, HB3.out⟩
      case measure => simp [intOf]; try omega
    · obtain rfl : k = y := by omega
      clear hi2 hf2 hb2
      go_wp2
      go_returns
      exact ⟨_, _, _, rfl, HI2.out, HB2.out, HF2.out⟩

set_option maxHeartbeats 1000000 in
theorem After_ref {A A' : Option Addr} {n c n' c' : Nat} {ts : List (List Int)} {l : List Int} (y : Int) (w : World) (h : Tab w A n c ts) (h' : Ints w A' n' c' l) :
    Calls Try.prog 24 #[.slice A n c, .slice A' n' c', .int .i64 y] w (RetL (AfterV ts l y).1 (AfterV ts l y).2 w) := by
  have g := Given_ref50 w h h'
  by_cases e : givenE ts l = 0
  · have ys := years_ref y w
    by_cases hy : 0 ≤ y ∧ y ≤ 200
    · rw [decide_eq_true hy] at ys
      obtain ⟨Y, rfl⟩ : ∃ Y : Nat, y = Y := ⟨y.toNat, by omega⟩
      unfold AfterV
      rw [if_pos e, if_pos hy]
      rw [Int.toNat_natCast]
      have yr := Years_ref Y w h h' (yearOk_of e) hy.2
      rw [e] at g
      have G := Lib.hid g
      have YS := Lib.hid ys
      have YR := Lib.hid yr
      clear g e h h' ys yr hy
      go_enter Try.func24, Try.ntmps24
      go_wp2_with fail
      refine G.out.mono ?_
      rintro e w' ⟨rfl, rfl⟩
      go_wp2_with fail
      refine YS.out.mono ?_
      rintro e w' ⟨rfl, rfl⟩
      go_wp2_with fail
      refine YR.out.mono ?_
      rintro e w' ⟨B, m, d, rfl, hi, hb, hf⟩
      have HI := Lib.hid hi
      have HB := Lib.hid hb
      have HF := Lib.hid hf
      clear hi hb hf
      go_wp2
      go_returns
      exact ⟨_, _, _, rfl, HI.out, HB.out, HF.out⟩
    · rw [decide_eq_false hy] at ys
      unfold AfterV
      rw [if_pos e, if_neg hy]
      rw [e] at g
      have G := Lib.hid g
      have YS := Lib.hid ys
      clear g e h h' ys hy
      go_enter Try.func24, Try.ntmps24
      go_wp2_with fail
      refine G.out.mono ?_
      rintro e w' ⟨rfl, rfl⟩
      go_wp2_with fail
      refine YS.out.mono ?_
      rintro e w' ⟨rfl, rfl⟩
      go_wp2
      go_returns
      exact RetL.none_ (Below.refl _ _)
  · unfold AfterV
    rw [if_neg e]
    have e' : ((givenE ts l : Int) != 0) = true := by simp [e]
    have G := Lib.hid g
    clear g h h' e
    generalize givenE ts l = x at *
    go_enter Try.func24, Try.ntmps24
    go_wp2_with fail
    refine G.out.mono ?_
    rintro e w' ⟨rfl, rfl⟩
    go_wp2
    go_returns
    exact RetL.none_ (Below.refl _ _)
end Go.Proofs.Ytihaabdgligbbaa
