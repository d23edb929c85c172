/- Step and After of the program and of the reference. -/
import Derived.Test.YtihaabdgligbbaaTabs
import Derived.Test.YtihaabdgligbbaaTabsR
import Derived.Test.YtihaabdgligbbaaYear
import Derived.Test.YtihaabdgligbbaaYearR
import Derived.Test.YtihaabdgligbbaaAppend
namespace Go.Proofs.Ytihaabdgligbbaa
open Go.RowKit
set_option linter.unusedVariables false

def StepV (ts : List (List Int)) (l : List Int) : List Int × Int := if givenE ts l = 0 then (yearL ts l, 0) else ([], givenE ts l)
def AfterV (ts : List (List Int)) (l : List Int) (y : Int) : List Int × Int :=
  if givenE ts l = 0 then (if 0 ≤ y ∧ y ≤ 200 then (yearsL ts l y.toNat, 0) else ([], 2)) else ([], givenE ts l)

set_option maxHeartbeats 1000000 in
theorem Step_calls {A A' : Option Addr} {n c n' c' : Nat} {ts : List (List Int)} {l : List Int} (w : World) (h : Tab w A n c ts) (h' : Ints w A' n' c' l) :
    Calls Try.prog 21 #[.slice A n c, .slice A' n' c'] w (RetL (StepV ts l).1 (StepV ts l).2 w) := by
  have g := given_calls w h h'
  have yr := fun ok => year_calls w h h' ok
  obtain ⟨V, hV⟩ : ∃ V, StepV ts l = V := ⟨_, rfl⟩
  rw [hV]
  unfold StepV at hV
  by_cases e : givenE ts l = 0
  · rw [if_pos e] at hV
    subst hV
    have Y := Lib.hid (yr (yearOk_of e))
    rw [e] at g
    have G := Lib.hid g
    clear g yr e h h'
    go_enter Try.func21, Try.ntmps21
    go_wp2_with fail
    refine G.out.mono ?_
    rintro e w' ⟨rfl, rfl⟩
    go_wp2_with fail
    refine Y.out.mono ?_
    rintro e w' ⟨B, m, d, rfl, hi, hb, hf⟩
    have HI := Lib.hid hi
    have HB := Lib.hid hb
    have HF := Lib.hid hf
    clear hi hb hf
    go_wp2
    go_returns
    exact ⟨_, _, _, rfl, HI.out, HB.out, HF.out⟩
  · rw [if_neg e] at hV
    subst hV
    have e' : ((givenE ts l : Int) != 0) = true := by simp [e]
    have G := Lib.hid g
    clear g yr h h' e
    generalize givenE ts l = x at *
    go_enter Try.func21, Try.ntmps21
    go_wp2_with fail
    refine G.out.mono ?_
    rintro e w' ⟨rfl, rfl⟩
    go_wp2
    go_returns
    exact RetL.none_ (Below.refl _ _)

set_option maxHeartbeats 1000000 in
theorem Step_ref {A A' : Option Addr} {n c n' c' : Nat} {ts : List (List Int)} {l : List Int} (w : World) (h : Tab w A n c ts) (h' : Ints w A' n' c' l) :
    Calls Try.prog 23 #[.slice A n c, .slice A' n' c'] w (RetL (StepV ts l).1 (StepV ts l).2 w) := by
  have g := Given_ref50 w h h'
  have yr := fun ok => Year_ref w h h' ok
  obtain ⟨V, hV⟩ : ∃ V, StepV ts l = V := ⟨_, rfl⟩
  rw [hV]
  unfold StepV at hV
  by_cases e : givenE ts l = 0
  · rw [if_pos e] at hV
    subst hV
    have Y := Lib.hid (yr (yearOk_of e))
    rw [e] at g
    have G := Lib.hid g
    clear g yr e h h'
    go_enter Try.func23, Try.ntmps23
    go_wp2_with fail
    refine G.out.mono ?_
    rintro e w' ⟨rfl, rfl⟩
    go_wp2_with fail
    refine Y.out.mono ?_
    rintro e w' ⟨B, m, d, rfl, hi, hb, hf⟩
    have HI := Lib.hid hi
    have HB := Lib.hid hb
    have HF := Lib.hid hf
    clear hi hb hf
    go_wp2
    go_returns
    exact ⟨_, _, _, rfl, HI.out, HB.out, HF.out⟩
  · rw [if_neg e] at hV
    subst hV
    have e' : ((givenE ts l : Int) != 0) = true := by simp [e]
    have G := Lib.hid g
    clear g yr h h' e
    generalize givenE ts l = x at *
    go_enter Try.func23, Try.ntmps23
    go_wp2_with fail
    refine G.out.mono ?_
    rintro e w' ⟨rfl, rfl⟩
    go_wp2
    go_returns
    exact RetL.none_ (Below.refl _ _)

/-- The program's loop over the years. -/
theorem years_ref (y : Int) (w : World) :
    Calls Try.prog 51 #[.int .i64 y] w fun e w' => e = .returned (.bool (decide (0 ≤ y ∧ y ≤ 200))) ∧ w = w' := by
  by_cases h0 : 0 ≤ y
  · by_cases h1 : y ≤ 200
    · rw [decide_eq_true ⟨h0, h1⟩]
      go_enter Try.func51, Try.ntmps51
      go_wp2
      go_ret
      exact ⟨ret_b (by simp; try omega), rfl⟩
    · rw [decide_eq_false (fun h => h1 h.2)]
      go_enter Try.func51, Try.ntmps51
      go_wp2
      go_ret
      exact ⟨ret_b (by simp; try omega), rfl⟩
  · rw [decide_eq_false (fun h => h0 h.1)]
    go_enter Try.func51, Try.ntmps51
    go_wp2
    go_ret
    exact ⟨ret_b (by simp; try omega), rfl⟩
end Go.Proofs.Ytihaabdgligbbaa
