/- The closure of pack: a run of equal integers is written. -/
import Derived.Test.YtchnfahgmceohaaMReads02
import Derived.Test.YtchnfahgmceohaaMReads03
import Derived.Test.YtchnfahgmceohaaMReads07
import Derived.Handy
import Derived.StillTailTactics
import Derived.IntWalk

namespace Go.Proofs.Ytchnfahgmceohaa
open Go.RowKit
set_option linter.unusedVariables false

/-- What pack keeps: the bytes so far, how often the last integer came. -/
structure Pk (w : World) (g : Nat) (run : Nat) (out : List Int) : Prop where
  o : ∃ v, Cel w g v ∧ OwnB w (g + 2) v out
  s : Cel w (g + 1) (.int .i64 run)
def FlushP (g : Nat) (out : List Int) (w : World) (e : Ending) (w' : World) : Prop := Pk w' g 0 out ∧ Below g w w'

theorem OwnB.slice {w : World} {B : Nat} {v : Value} {zs : List Int} (h : OwnB w B v zs) : ∃ A c, v = .slice A zs.length c := by
  obtain ⟨A, n, c, rfl, hi, _⟩ := h.ints
  exact ⟨A, c, by rw [hi.len]⟩
theorem OwnB.far {w : World} {B : Nat} {v : Value} {zs : List Int} (h : OwnB w B v zs) {p : Addr} (hp : p.block < B) (u : Value) : OwnB (w.setCell p u) B v zs :=
  ⟨h.row.kept (row := some p.block) ⟨rfl, rfl, rfl, by simp [World.setCell], fun k hk hne => Below.heap_setCell w p u k (by intro e; exact hne (by rw [e]))⟩ (by
    rcases hv : v.ownBlock with _ | k
    · exact .inl rfl
    · refine .inr ?_
      intro e
      have := (h.row.lt k hv).1
      injection e with e
      omega), h.rng, h.few⟩

set_option maxRecDepth 100000 in
set_option maxHeartbeats 1000000 in
theorem flush_calls (g run : Nat) (out : List Int) (w : World) (h : Pk w g run out) (hr : run ≤ 1000000000000) (hl : out.length ≤ 1000000000000) (hg : g + 1 < w.heap.size) :
    Calls Try.prog 68 #[.pointer (some ⟨g + 1, 0, none⟩), .pointer (some ⟨g, 0, none⟩)] w fun e w' => e = .returned (.tuple #[]) ∧ FlushP g (out ++ runL run) w e w' := by
  obtain ⟨⟨v, ⟨vc, vf, vl⟩, ho⟩, ⟨sc, sf, sl⟩⟩ := h
  obtain ⟨A, c, rfl⟩ := ho.slice
  have HO := Lib.hid ho
  by_cases h0 : 0 < run
  · have hr0 : (0 : Int) < run := by omega
    obtain ⟨r2, hr2⟩ : ∃ r2, 2 * run = r2 := ⟨_, rfl⟩
    have e2 : (2 : Int) * (run : Int) = (r2 : Int) := by omega
    have hr3 : (r2 : Int) ≤ 2000000000000 := by omega
    have pn := putNumber_calls (g + 2) _ out r2 w ho (by omega) (by omega) hl
    have PN := Lib.hid pn
    have HRL : Hid (out ++ runL run = out ++ putL r2) := Lib.hid (by unfold runL; rw [if_pos h0, hr2])
    clear pn ho hr2
    go_enter Try.func68, Try.ntmps68
    go_wp2_with fail
    refine (PN.out).mono ?_
    rintro e w1 ⟨v1, rfl, ho1, hb1⟩
    obtain ⟨A1, c1, rfl⟩ := ho1.slice
    have q1 : Cel w1 g (.slice A out.length c) := (Cel.mk vc vf vl).below hb1 (by omega)
    have q2 : Cel w1 (g + 1) (.int .i64 run) := (Cel.mk sc sf sl).below hb1 (by omega)
    have q3 := q1.set_slice (A' := A1) (n' := (out ++ putL r2).length) (c' := c1)
    have q4 := q2.far (q := ⟨g, 0, none⟩) (by simp) (.slice A1 (out ++ putL r2).length c1)
    have q5 := q4.set 0
    have q6 := q3.far (q := ⟨g + 1, 0, none⟩) (by simp) (.int .i64 0)
    have q7 := (ho1.far (p := ⟨g, 0, none⟩) (by simp) (.slice A1 (out ++ putL r2).length c1)).far (p := ⟨g + 1, 0, none⟩) (by simp) (.int .i64 0)
    have hbb : Below g w ((w1.setCell ⟨g, 0, none⟩ (.slice A1 (out ++ putL r2).length c1)).setCell ⟨g + 1, 0, none⟩ (.int .i64 0)) := by
      have hm : Below g w w1 := hb1.mono (by omega)
      have h2 : Below g w (w1.setCell ⟨g, 0, none⟩ (.slice A1 (out ++ putL r2).length c1)) := hm.setCell (Nat.le_refl g) _
      exact h2.setCell (show g ≤ g + 1 by omega) _
    have R : Hid (Pk ((w1.setCell ⟨g, 0, none⟩ (.slice A1 (out ++ putL r2).length c1)).setCell ⟨g + 1, 0, none⟩ (.int .i64 0)) g 0 (out ++ runL run)) := Lib.hid ⟨⟨_, q6, by rw [HRL.out]; exact q7⟩, q5⟩
    have HBB := Lib.hid hbb
    obtain ⟨q1c, q1f, q1l⟩ := q1
    obtain ⟨q4c, q4f, q4l⟩ := q4
    clear hbb q2 q3 q5 q6 q7 vc vf vl sc sf sl hb1 ho1
    generalize (out ++ putL r2).length = nn at *
    go_wp2
    go_returns
    exact ⟨rfl, R.out, HBB.out⟩
  · obtain rfl : run = 0 := by omega
    have q2 : Cel w (g + 1) (.int .i64 0) := ⟨sc, sf, sl⟩
    have q5 := q2.set 0
    have q6 := (Cel.mk vc vf vl).far (q := ⟨g + 1, 0, none⟩) (by simp) (.int .i64 0)
    have q7 := ho.far (p := ⟨g + 1, 0, none⟩) (by simp) (.int .i64 0)
    have R : Hid (Pk (w.setCell ⟨g + 1, 0, none⟩ (.int .i64 0)) g 0 (out ++ runL 0)) := Lib.hid ⟨⟨_, q6, by rw [show runL 0 = [] from rfl, List.append_nil]; exact q7⟩, q5⟩
    have HBB : Hid (Below g w (w.setCell ⟨g + 1, 0, none⟩ (.int .i64 0))) := Lib.hid ((Below.refl g w).setCell (by simp) _)
    have sc' : w.cell? ⟨g + 1, 0, none⟩ = some (.int .i64 0) := sc
    clear q2 q5 q6 q7 ho h0 sc
    go_enter Try.func68, Try.ntmps68
    go_wp2
    go_returns
    exact ⟨rfl, R.out, HBB.out⟩
end Go.Proofs.Ytchnfahgmceohaa

/- pack of the program. -/
namespace Go.Proofs.Ytchnfahgmceohaa
open Go.RowKit
set_option linter.unusedVariables false

theorem OwnB.mono {w : World} {B B' : Nat} {v : Value} {zs : List Int} (h : OwnB w B v zs) (hb : B' ≤ B) : OwnB w B' v zs :=
  ⟨⟨h.row.1, by
    rcases h.row.2 with h1 | ⟨g, cap, cur, h1, h2, h3⟩
    · exact .inl h1
    · exact .inr ⟨g, cap, cur, h1, Nat.le_trans hb h2, h3⟩⟩, h.rng, h.few⟩
/-- What a function hands back that makes bytes. -/
def RetY (bs : List Int) (w : World) (e : Ending) (w' : World) : Prop := ∃ v, e = .returned v ∧ OwnB w' w.heap.size v bs ∧ Below w.heap.size w w'

set_option maxRecDepth 100000 in
set_option maxHeartbeats 2000000 in
theorem pack_calls {A : Option Addr} {n c : Nat} {l : List Int} (w : World) (h : Ints w A n c l) (hp : inP l) (hn : (n : Int) ≤ 10000) :
    Calls Try.prog 49 #[.slice A n c] w (RetY (packL l) w) := by
  have HL := Lib.hid h.len
  have hcap := h.cap
  have hmax := h.max
  have H := Lib.hid h
  have HP := Lib.hid hp
  have K0 : Hid (Pk ((w.alloc (.cells #[.slice none 0 0] 25)).alloc (.cells #[.int .i64 0] 3)) w.heap.size 0 []) := Lib.hid ⟨⟨.slice none 0 0, (Cel.made w (.slice none 0 0) 25).alloc _, OwnB.nil _ _⟩, by
    have := Cel.made (w.alloc (.cells #[.slice none 0 0] 25)) (.int .i64 0) 3
    rw [World.size_alloc] at this
    exact this⟩
  have B0 : Hid (Below w.heap.size w ((w.alloc (.cells #[.slice none 0 0] 25)).alloc (.cells #[.int .i64 0] 3))) := Lib.hid (((Below.refl _ _).alloc (Nat.le_refl _) _).alloc (by simp) _)
  clear h hp
  go_enter Try.func49, Try.ntmps49
  go_wp2
  go_loopw [4, 12] (fun t i wr => ∃ (k run : Nat) (last : Int) (out : List Int), k ≤ n ∧ i = .int .i64 k ∧ t = .int .i64 last ∧ -1099511627776 ≤ last ∧ last ≤ 1099511627776 ∧ run ≤ k ∧ out.length ≤ 20 * k ∧ Pk wr w.heap.size run out ∧ Hid (out ++ packGo last run (l.drop k) = packL l) ∧ w.heap.size + 1 < wr.heap.size ∧ Below w.heap.size w wr) (fun _ i _ => n - (intOf i).toNat)
  case atStart => exact ⟨0, 0, 0, [], Nat.zero_le _, rfl, rfl, by omega, by omega, Nat.le_refl _, by simp, K0.out, Lib.hid rfl, by simp, B0.out⟩
  case round =>
    obtain ⟨k, run, last, out, hk, rfl, rfl, hl0, hl1, hrk, hok, hpk, he, hsz, hbe⟩ := hrel
    generalize wr = wo at *
    have HPK := Lib.hid hpk
    have HBE := Lib.hid hbe
    clear hpk
    by_cases hlt : k < n
    · obtain ⟨ad, rfl, hl, hc⟩ := (H.out.below hbe).at_ hlt
      have hz := inP_el HP.out k
      have hkl : k < l.length := by rw [HL.out]; exact hlt
      have es := fun (e : el l k = last) => (pack_same (l := l) (run := run) hkl)
      have eo := fun (e : ¬ el l k = last) => (pack_other (l := l) (last := last) (run := run) hkl e)
      obtain ⟨hz0, hz1⟩ := hz
      clear hbe
      by_cases heq : el l k = last
      · have HE : Hid (out ++ packGo last (run + 1) (l.drop (k + 1)) = packL l) := Lib.hid (by rw [← he.out]; congr 1; have := es heq; rw [heq] at this; exact this.symm)
        have heq' : ((el l k : Int) == last) = true := by simp [heq]
        obtain ⟨⟨v, v1, v2⟩, s1⟩ := HPK.out
        have q1 := Lib.hid (Pk.mk ⟨v, v1.far (q := ⟨w.heap.size + 1, 0, none⟩) (by simp) (.int .i64 ((run + 1 : Nat) : Int)), v2.far (p := ⟨w.heap.size + 1, 0, none⟩) (by simp) (.int .i64 ((run + 1 : Nat) : Int))⟩ (s1.set ((run + 1 : Nat) : Int)))
        have hb2 : Below w.heap.size w (wo.setCell ⟨w.heap.size + 1, 0, none⟩ (.int .i64 ((run + 1 : Nat) : Int))) := HBE.out.setCell (by simp) _
        have HB2 := Lib.hid hb2
        obtain ⟨s1c, s1f, s1l⟩ := s1
        have hri : (run : Int) + 1 = ((run + 1 : Nat) : Int) := by omega
        have HS : Hid (w.heap.size + 1 < (wo.setCell ⟨w.heap.size + 1, 0, none⟩ (.int .i64 ((run + 1 : Nat) : Int))).heap.size) := Lib.hid (by simp [World.setCell]; omega)
        obtain ⟨r1, hr1⟩ : ∃ r1, run + 1 = r1 := ⟨_, rfl⟩
        rw [hr1] at q1 HB2 hri HS HE
        have HRK : Hid (r1 ≤ k + 1) := Lib.hid (by omega)
        clear v1 v2 hb2 es eo he heq hr1
        go_wp2
        go_roundw
        case rel => exact ⟨k + 1, r1, last, out, by omega, by go_num, rfl, hl0, hl1, HRK.out, by omega, q1.out, HE, HS.out, HB2.out⟩
        case measure => simp [intOf]; try omega
      · have HE : Hid (out ++ runL run ++ putL (2 * foldN (el l k - last) + 1) ++ packGo (el l k) 0 (l.drop (k + 1)) = packL l) := Lib.hid (by rw [← he.out, eo heq]; simp)
        have heq' : ((el l k : Int) == last) = false := by simp [heq]
        have fl := flush_calls w.heap.size run out wo HPK.out (by omega) (by omega) hsz
        have FL := Lib.hid fl
        have hfl := foldN_le (z := el l k - last) (by omega) (by omega)
        have hrl := runL_len run
        have fo := fun W => folded_calls (el l k - last) W (by omega) (by omega)
        have FO := Lib.hid fo
        clear es eo he heq fl fo
        go_wp2_with fail
        refine (FL.out).mono ?_
        rintro e w1 ⟨rfl, hp1, hb1⟩
        obtain ⟨⟨v, v1, v2⟩, s1⟩ := hp1
        obtain ⟨A1, c1, rfl⟩ := v2.slice
        obtain ⟨N, hN⟩ : ∃ N, (out ++ runL run).length = N := ⟨_, rfl⟩
        have hNl : N ≤ 20 * k + 10 := by rw [← hN]; simp; omega
        rw [hN] at v1
        obtain ⟨Y, hY⟩ : ∃ Y, 2 * foldN (el l k - last) + 1 = Y := ⟨_, rfl⟩
        have hYl := putL_len Y
        have e1 : IntKind.i64.wrap (el l k - last) = el l k - last := IntWalk.i64_in _ (by omega)
        have e2 : IntKind.i64.wrap (2 * (foldN (el l k - last) : Int)) = 2 * (foldN (el l k - last) : Int) := IntWalk.i64_in _ (by omega)
        have e3 : IntKind.i64.wrap (2 * (foldN (el l k - last) : Int) + 1) = (Y : Int) := by rw [show 2 * (foldN (el l k - last) : Int) + 1 = Y by omega]; exact IntWalk.i64_in _ (by omega)
        have hs1 : w.heap.size + 1 < w1.heap.size := by have := hb1.size; omega
        have V2 := Lib.hid v2
        have V1 := Lib.hid v1
        have S1 := Lib.hid s1
        have pn := putNumber_calls (w.heap.size + 2) (.slice A1 N c1) (out ++ runL run) Y w1.drew (by have := v2.drewN 1; rw [hN] at this; exact this) (by show w.heap.size + 2 ≤ w1.heap.size; omega) (by omega) (by omega)
        have PN := Lib.hid pn
        have HB1 := Lib.hid (HBE.out.trans hb1)
        rw [hY] at HE
        obtain ⟨v1c, v1f, v1l⟩ := v1
        generalize foldN (el l k - last) = F at *
        clear pn v2 s1 hY hb1 hN
        go_wp2_with fail
        refine wp_region_still_tail 7 (by kernel_rfl) (by kernel_rfl) ?_
        simp only [List.take_succ_cons, List.take_zero, List.drop_succ_cons, List.drop_zero]
        repeat still_step
        still_call ((FO.out w1.drew).mono (fun _ _ ⟨he, hw⟩ => ⟨he, hw.symm⟩))
        repeat still_step
        refine wpStill_nil ?_
        change wpList _ _ _ _ _ w1.drew
        go_wp2_with fail
        refine (PN.out).mono ?_
        rintro e w2 ⟨v2, rfl, ho2, hb2⟩
        obtain ⟨A2, c2, rfl⟩ := ho2.slice
        have q1 : Cel w2 w.heap.size (.slice A1 N c1) := (V1.out.drewN 1).below hb2 (by omega)
        have q2 : Cel w2 (w.heap.size + 1) (.int .i64 (0 : Nat)) := (S1.out.drewN 1).below hb2 (by omega)
        have q3 := q1.set_slice (A' := A2) (n' := (out ++ runL run ++ putL Y).length) (c' := c2)
        have q4 := q2.far (q := ⟨w.heap.size, 0, none⟩) (by simp) (.slice A2 (out ++ runL run ++ putL Y).length c2)
        have q7 := ho2.far (p := ⟨w.heap.size, 0, none⟩) (by simp) (.slice A2 (out ++ runL run ++ putL Y).length c2)
        have hbb : Below w.heap.size w (w2.setCell ⟨w.heap.size, 0, none⟩ (.slice A2 (out ++ runL run ++ putL Y).length c2)) := by
          have h1 : Below w.heap.size w w2 := HB1.out.trans (by have h2 := hb2.mono (show w.heap.size ≤ w.heap.size + 2 by omega); exact ⟨h2.os, h2.tape, h2.output, h2.size, h2.block⟩)
          exact h1.setCell (Nat.le_refl w.heap.size) _
        have R := Lib.hid (Pk.mk ⟨_, q3, q7⟩ q4)
        have HBB := Lib.hid hbb
        have HS : Hid (w.heap.size + 1 < (w2.setCell ⟨w.heap.size, 0, none⟩ (.slice A2 (out ++ runL run ++ putL Y).length c2)).heap.size) := Lib.hid (by have h3 : w1.heap.size ≤ w2.heap.size := hb2.size; simp [World.setCell]; omega)
        have HOL : Hid ((out ++ runL run ++ putL Y).length ≤ 20 * (k + 1)) := Lib.hid (by simp; omega)
        obtain ⟨q1c, q1f, q1l⟩ := q1
        clear hbb q2 q3 q4 q7 hb2 ho2 e1 e2 e3
        generalize out ++ runL run ++ putL Y = out2 at *
        go_wp2
        go_roundw
        case rel => exact ⟨k + 1, 0, el l k, out2, by omega, by go_num, rfl, hz0, hz1, by omega, HOL.out, R.out, HE, HS.out, HBB.out⟩
        case measure => simp [intOf]; try omega
    · obtain rfl : k = n := by omega
      have HE : Hid (out ++ runL run = packL l) := Lib.hid (by rw [← he.out, List.drop_of_length_le (by rw [HL.out]; exact Nat.le_refl _), packGo])
      have fl := flush_calls w.heap.size run out wo HPK.out (by omega) (by omega) hsz
      rw [HE.out] at fl
      have FL := Lib.hid fl
      clear fl he hbe
      go_wp2_with fail
      refine (FL.out).mono ?_
      rintro e w1 ⟨rfl, hp1, hb1⟩
      obtain ⟨⟨v, v1, v2⟩, s1⟩ := hp1
      obtain ⟨v1c, v1f, v1l⟩ := v1
      have V2 := Lib.hid (v2.mono (show w.heap.size ≤ w.heap.size + 2 by omega))
      have HB1 := Lib.hid (HBE.out.trans hb1)
      clear v2 s1 hb1
      go_wp2
      go_ret
      exact ⟨_, rfl, V2.out, HB1.out⟩
end Go.Proofs.Ytchnfahgmceohaa
