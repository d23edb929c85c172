/- After of the program and of the reference. -/
import Derived.Test.YtihaabdgligbbaaStep
namespace Go.Proofs.Ytihaabdgligbbaa
open Go.RowKit
set_option linter.unusedVariables false

set_option maxHeartbeats 1000000 in
theorem After_in {A A' : Option Addr} {n c n' c' : Nat} {ts : List (List Int)} {l : List Int} (y : Nat) (w : World) (h : Tab w A n c ts) (h' : Ints w A' n' c' l) (e : givenE ts l = 0) (hy : (y : Int) ≤ 200) :
    Calls Try.prog 19 #[.slice A n c, .slice A' n' c', .int .i64 y] w (RetL (yearsL ts l y) 0 w) := by
  have g := given_calls w h h'
  rw [e] at g
  have G := Lib.hid g
  have OK := Lib.hid (yearOk_of e)
  have H := Lib.hid h
  have HL' := Lib.hid h'.len
  have CL := Lib.hid (Clone_calls w h')
  have hcap := h.cap
  have hmax := h.max
  have hcap' := h'.cap
  have hmax' := h'.max
  clear g h h' e
  go_enter Try.func19, Try.ntmps19
  go_wp2_with fail
  refine G.out.mono ?_
  rintro e w' ⟨rfl, rfl⟩
  go_wp2_with fail
  refine CL.out.mono ?_
  rintro e w' ⟨v, rfl, hv, hb⟩
  obtain ⟨B, m, d, rfl, hi, hf⟩ := hv.ints
  have hm : m = n' := by rw [← hi.len, HL'.out]
  subst hm
  have HI := Lib.hid hi
  have HF := Lib.hid hf
  have HB := Lib.hid hb
  clear hi hf hb hv
  go_wp2
  go_loopw [9, 27] (fun s i wr => ∃ (k : Nat) (B : Option Addr) (d : Nat), k ≤ y ∧ i = .int .i64 k ∧ s = .slice B m d ∧ Ints wr B m d (yearsL ts l k) ∧ (∀ ad, B = some ad → w.heap.size ≤ ad.block) ∧ Below w.heap.size w wr) (fun _ i _ => y - (intOf i).toNat)
  case atStart => exact ⟨0, _, _, Nat.zero_le _, rfl, rfl, HI.out, HF.out, HB.out⟩
  case round =>
    obtain ⟨k, B2, d2, hk, rfl, rfl, hi2, hf2, hb2⟩ := hrel
    have HI2 := Lib.hid hi2
    have HF2 := Lib.hid hf2
    have HB2 := Lib.hid hb2
    by_cases hlt : k < y
    · have yr := year_calls wr (H.out.below hb2) hi2 (OK.out.years k).1
      have Y := Lib.hid yr
      clear yr hi2 hf2 hb2
      go_wp2_with fail
      refine Y.out.mono ?_
      rintro e w3 ⟨B3, m3, d3, rfl, hi3, hb3, hf3⟩
      have hm3 : m3 = m := by rw [← hi3.len, yearL_length, (OK.out.years k).2.1, HL'.out]
      subst hm3
      have HI3 := Lib.hid hi3
      have HF3 : Hid (∀ ad, B3 = some ad → w.heap.size ≤ ad.block) := Lib.hid fun ad e => Nat.le_trans HB2.out.size (hf3 ad e)
      have HB3 := Lib.hid (below_then HB2.out hb3 HB2.out.size)
      clear hi3 hb3 hf3
      go_wp2
      go_roundw
      case rel => exact ⟨k + 1, _, _, by omega, by go_num, rfl, HI3.out, HF3.out, HB3.out⟩
      case measure => simp [intOf]; try omega
    · obtain rfl : k = y := by omega
      clear hi2 hf2 hb2
      go_wp2
      go_returns
      exact ⟨_, _, _, rfl, HI2.out, HB2.out, HF2.out⟩

set_option maxHeartbeats 1000000 in
theorem After_calls {A A' : Option Addr} {n c n' c' : Nat} {ts : List (List Int)} {l : List Int} (y : Int) (w : World) (h : Tab w A n c ts) (h' : Ints w A' n' c' l) :
    Calls Try.prog 19 #[.slice A n c, .slice A' n' c', .int .i64 y] w (RetL (AfterV ts l y).1 (AfterV ts l y).2 w) := by
  have g := given_calls w h h'
  by_cases e : givenE ts l = 0
  · by_cases hy : 0 ≤ y ∧ y ≤ 200
    · obtain ⟨Y, rfl⟩ : ∃ Y : Nat, y = Y := ⟨y.toNat, by omega⟩
      unfold AfterV
      rw [if_pos e, if_pos hy]
      exact After_in Y w h h' e hy.2
    · unfold AfterV
      rw [if_pos e, if_neg hy]
      rw [e] at g
      have G := Lib.hid g
      clear g e h h'
      by_cases h0 : y < 0
      · go_enter Try.func19, Try.ntmps19
        go_wp2_with fail
        refine G.out.mono ?_
        rintro e w' ⟨rfl, rfl⟩
        go_wp2
        go_returns
        exact RetL.none_ (Below.refl _ _)
      · have h1 : 200 < y := by omega
        clear hy
        go_enter Try.func19, Try.ntmps19
        go_wp2_with fail
        refine G.out.mono ?_
        rintro e w' ⟨rfl, rfl⟩
        go_wp2
        go_returns
        exact RetL.none_ (Below.refl _ _)
  · unfold AfterV
    rw [if_neg e]
    have e' : ((givenE ts l : Int) != 0) = true := by simp [e]
    have G := Lib.hid g
    clear g h h' e
    generalize givenE ts l = x at *
    go_enter Try.func19, Try.ntmps19
    go_wp2_with fail
    refine G.out.mono ?_
    rintro e w' ⟨rfl, rfl⟩
    go_wp2
    go_returns
    exact RetL.none_ (Below.refl _ _)
end Go.Proofs.Ytihaabdgligbbaa
