/- The closure of pack: a run of equal integers is written. -/
import Derived.Test.YtchnfahgmceohaaPackLaw
import Derived.Test.YtchnfahgmceohaaPut
import Derived.Test.YtchnfahgmceohaaCel
import Derived.Handy
namespace Go.Proofs.Ytchnfahgmceohaa
open Go.RowKit
set_option linter.unusedVariables false

/-- What pack keeps: the bytes so far, how often the last integer came. -/
structure Pk (w : World) (g : Nat) (run : Nat) (out : List Int) : Prop where
  o : ∃ v, Cel w g v ∧ OwnB w (g + 2) v out
  s : Cel w (g + 1) (.int .i64 run)
def FlushP (g : Nat) (out : List Int) (w : World) (e : Ending) (w' : World) : Prop := Pk w' g 0 out ∧ Below g w w'

theorem OwnB.slice {w : World} {B : Nat} {v : Value} {zs : List Int} (h : OwnB w B v zs) : ∃ A c, v = .slice A zs.length c := by
  obtain ⟨A, n, c, rfl, hi, _⟩ := h.ints
  exact ⟨A, c, by rw [hi.len]⟩
theorem OwnB.far {w : World} {B : Nat} {v : Value} {zs : List Int} (h : OwnB w B v zs) {p : Addr} (hp : p.block < B) (u : Value) : OwnB (w.setCell p u) B v zs :=
  ⟨h.row.kept (row := some p.block) ⟨rfl, rfl, rfl, by simp [World.setCell], fun k hk hne => Below.heap_setCell w p u k (by intro e; exact hne (by rw [e]))⟩ (by
    rcases hv : v.ownBlock with _ | k
    · exact .inl rfl
    · refine .inr ?_
      intro e
      have := (h.row.lt k hv).1
      injection e with e
      omega), h.rng, h.few⟩

set_option maxRecDepth 100000 in
set_option maxHeartbeats 1000000 in
theorem flush_calls (g run : Nat) (out : List Int) (w : World) (h : Pk w g run out) (hr : run ≤ 1000000000000) (hl : out.length ≤ 1000000000000) (hg : g + 1 < w.heap.size) :
    Calls Try.prog 68 #[.pointer (some ⟨g + 1, 0, none⟩), .pointer (some ⟨g, 0, none⟩)] w fun e w' => e = .returned (.tuple #[]) ∧ FlushP g (out ++ runL run) w e w' := by
  obtain ⟨⟨v, ⟨vc, vf, vl⟩, ho⟩, ⟨sc, sf, sl⟩⟩ := h
  obtain ⟨A, c, rfl⟩ := ho.slice
  have HO := Lib.hid ho
  by_cases h0 : 0 < run
  · have hr0 : (0 : Int) < run := by omega
    obtain ⟨r2, hr2⟩ : ∃ r2, 2 * run = r2 := ⟨_, rfl⟩
    have e2 : (2 : Int) * (run : Int) = (r2 : Int) := by omega
    have hr3 : (r2 : Int) ≤ 2000000000000 := by omega
    have pn := putNumber_calls (g + 2) _ out r2 w ho (by omega) (by omega) hl
    have PN := Lib.hid pn
    have HRL : Hid (out ++ runL run = out ++ putL r2) := Lib.hid (by unfold runL; rw [if_pos h0, hr2])
    clear pn ho hr2
    go_enter Try.func68, Try.ntmps68
    go_wp2_with fail
    refine (PN.out).mono ?_
    rintro e w1 ⟨v1, rfl, ho1, hb1⟩
    obtain ⟨A1, c1, rfl⟩ := ho1.slice
    have q1 : Cel w1 g (.slice A out.length c) := (Cel.mk vc vf vl).below hb1 (by omega)
    have q2 : Cel w1 (g + 1) (.int .i64 run) := (Cel.mk sc sf sl).below hb1 (by omega)
    have q3 := q1.set_slice (A' := A1) (n' := (out ++ putL r2).length) (c' := c1)
    have q4 := q2.far (q := ⟨g, 0, none⟩) (by simp) (.slice A1 (out ++ putL r2).length c1)
    have q5 := q4.set 0
    have q6 := q3.far (q := ⟨g + 1, 0, none⟩) (by simp) (.int .i64 0)
    have q7 := (ho1.far (p := ⟨g, 0, none⟩) (by simp) (.slice A1 (out ++ putL r2).length c1)).far (p := ⟨g + 1, 0, none⟩) (by simp) (.int .i64 0)
    have hbb : Below g w ((w1.setCell ⟨g, 0, none⟩ (.slice A1 (out ++ putL r2).length c1)).setCell ⟨g + 1, 0, none⟩ (.int .i64 0)) := by
      have hm : Below g w w1 := hb1.mono (by omega)
      have h2 : Below g w (w1.setCell ⟨g, 0, none⟩ (.slice A1 (out ++ putL r2).length c1)) := hm.setCell (Nat.le_refl g) _
      exact h2.setCell (show g ≤ g + 1 by omega) _
    have R : Hid (Pk ((w1.setCell ⟨g, 0, none⟩ (.slice A1 (out ++ putL r2).length c1)).setCell ⟨g + 1, 0, none⟩ (.int .i64 0)) g 0 (out ++ runL run)) := Lib.hid ⟨⟨_, q6, by rw [HRL.out]; exact q7⟩, q5⟩
    have HBB := Lib.hid hbb
    obtain ⟨q1c, q1f, q1l⟩ := q1
    obtain ⟨q4c, q4f, q4l⟩ := q4
    clear hbb q2 q3 q5 q6 q7 vc vf vl sc sf sl hb1 ho1
    generalize (out ++ putL r2).length = nn at *
    go_wp2
    go_returns
    exact ⟨rfl, R.out, HBB.out⟩
  · obtain rfl : run = 0 := by omega
    have q2 : Cel w (g + 1) (.int .i64 0) := ⟨sc, sf, sl⟩
    have q5 := q2.set 0
    have q6 := (Cel.mk vc vf vl).far (q := ⟨g + 1, 0, none⟩) (by simp) (.int .i64 0)
    have q7 := ho.far (p := ⟨g + 1, 0, none⟩) (by simp) (.int .i64 0)
    have R : Hid (Pk (w.setCell ⟨g + 1, 0, none⟩ (.int .i64 0)) g 0 (out ++ runL 0)) := Lib.hid ⟨⟨_, q6, by rw [show runL 0 = [] from rfl, List.append_nil]; exact q7⟩, q5⟩
    have HBB : Hid (Below g w (w.setCell ⟨g + 1, 0, none⟩ (.int .i64 0))) := Lib.hid ((Below.refl g w).setCell (by simp) _)
    have sc' : w.cell? ⟨g + 1, 0, none⟩ = some (.int .i64 0) := sc
    clear q2 q5 q6 q7 ho h0 sc
    go_enter Try.func68, Try.ntmps68
    go_wp2
    go_returns
    exact ⟨rfl, R.out, HBB.out⟩
end Go.Proofs.Ytchnfahgmceohaa
