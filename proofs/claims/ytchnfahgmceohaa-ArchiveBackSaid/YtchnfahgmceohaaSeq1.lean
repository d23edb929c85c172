/- The closure of series: it appends to the depths of a record. -/
import Derived.Test.YtchnfahgmceohaaUnp2
import Derived.Test.YtchnfahgmceohaaSer
namespace Go.Proofs.Ytchnfahgmceohaa
open Go.RowKit
set_option linter.unusedVariables false

/-- The record at block g that is being made: its depths are the call's own. -/
structure JS (f st : Int) (g : Nat) (w : World) (out : List Int) : Prop where
  c0 : w.cell? ⟨g, 0, none⟩ = some (.int .i64 f)
  c1 : w.cell? ⟨g, 1, none⟩ = some (.int .i64 st)
  fr : w.frozen? ⟨g, 2, none⟩ = false
  lt : g < w.heap.size
  o : ∃ v, w.cell? ⟨g, 2, none⟩ = some v ∧ Own w (g + 1) v out
theorem Ky.set2 {g t : Nat} {a w : World} (h : Ky g t a w) (u : Value) : Ky g t a (w.setCell ⟨g, 2, none⟩ u) :=
  h.trans ⟨rfl, rfl, rfl, by simp [World.setCell], fun k _ hne => Below.heap_setCell _ _ _ _ hne⟩
theorem JS.num {f st : Int} {g p : Nat} {w w' : World} {out : List Int} (h : JS f st g w out) (hg : p < g) (hw : w.grownBy w' (some p)) : JS f st g w' out := by
  obtain ⟨v, c, o⟩ := h.o
  have hl := h.lt
  have e : w'.heap[g]? = w.heap[g]? := hw.block g hl (by intro e; injection e with e; omega)
  have hc : ∀ i, w'.cell? ⟨g, i, none⟩ = w.cell? ⟨g, i, none⟩ := fun i => by unfold World.cell?; rw [e]
  have hf : ∀ i, w'.frozen? ⟨g, i, none⟩ = w.frozen? ⟨g, i, none⟩ := fun i => by unfold World.frozen?; rw [e]
  exact ⟨(hc 0).trans h.c0, (hc 1).trans h.c1, (hf 2).trans h.fr, Nat.lt_of_lt_of_le hl hw.size, v, (hc 2).trans c, ⟨o.row.kept (row := some p) hw (by
    rcases hv : v.ownBlock with _ | k
    · exact .inl rfl
    · refine .inr ?_
      intro e
      have := (o.row.lt k hv).1
      injection e with e
      omega), o.rng, o.few⟩⟩

set_option maxRecDepth 100000 in
set_option maxHeartbeats 1000000 in
theorem series1_calls (f st : Int) (g : Nat) (out : List Int) (v : Int) (t : Nat) (w : World) (h : JS f st g w out) (hv : -9223372036854775808 ≤ v ∧ v ≤ 9223372036854775807) (ht : (t : Int) ≤ 1000000) (hl : out.length ≤ 1000000) :
    Calls Try.prog 67 #[.int .i64 v, .int .i64 t, .pointer (some ⟨g, 0, none⟩)] w fun e w' => e = .returned (.tuple #[]) ∧ JS f st g w' (out ++ List.replicate t v) ∧ Ky g g w w' := by
  have H := Lib.hid h
  have hp := h.lt
  clear h
  go_enter Try.func67, Try.ntmps67
  go_wp2
  go_loopw [6] (fun i wr => ∃ k : Nat, k ≤ t ∧ i = .int .i64 k ∧ JS f st g wr (out ++ List.replicate k v) ∧ Ky g g w wr) (fun i _ => t - (intOf i).toNat)
  case atStart => exact ⟨0, Nat.zero_le _, rfl, by rw [List.replicate_zero, List.append_nil]; exact H.out, Ky.refl _ _ _⟩
  case round =>
    obtain ⟨k, hk, rfl, hj, hky⟩ := hrel
    have HK := Lib.hid hky
    have hsz : g + 1 ≤ wr.heap.size := Nat.le_trans hp hky.size
    have HJ := Lib.hid hj
    clear hky
    by_cases hlt : k < t
    · obtain ⟨cv, cc, ho⟩ := hj.o
      have cf := hj.fr
      obtain ⟨A, c, rfl⟩ := ho.slice
      obtain ⟨N, hN⟩ : ∃ N, (out ++ List.replicate k v).length = N := ⟨_, rfl⟩
      have hNl : N ≤ 2000000 := by rw [← hN]; simp; omega
      rw [hN] at cc ho
      have HO := Lib.hid ho
      have HE : Hid (out ++ (List.replicate k v ++ [v]) = out ++ List.replicate (k + 1) v) := Lib.hid (by rw [← List.replicate_succ'])
      have HCC := Lib.hid cc
      clear hj ho
      go_wp2_with (at_builtin; refine wpList_append_int wr (g + 1) _ (out ++ List.replicate k v) v rfl _ _ rfl rfl rfl HO.out hsz (by rw [hN]; omega) hv ?_)
      intro v' w1 ho1 hb1
      rw [HE.out] at ho1
      obtain ⟨A1, c1, rfl⟩ := ho1.slice
      obtain ⟨M, hM⟩ : ∃ M, (out ++ List.replicate (k + 1) v).length = M := ⟨_, rfl⟩
      rw [hM] at ho1
      have k0 := (hb1.cell (p := ⟨g, 0, none⟩) (Nat.lt_succ_self g)).trans HJ.out.c0
      have k1 := (hb1.cell (p := ⟨g, 1, none⟩) (Nat.lt_succ_self g)).trans HJ.out.c1
      have k2 := (hb1.cell (p := ⟨g, 2, none⟩) (Nat.lt_succ_self g)).trans HCC.out
      have kf := (hb1.frozen (p := ⟨g, 2, none⟩) (Nat.lt_succ_self g)).trans cf
      have q2 : Hid (JS f st g (w1.setCell ⟨g, 2, none⟩ (.slice A1 M c1)) (out ++ List.replicate (k + 1) v)) := Lib.hid
        ⟨by rw [World.cell?_setCell_other w1 _ _ _ (by simp)]; exact k0, by rw [World.cell?_setCell_other w1 _ _ _ (by simp)]; exact k1, by rw [World.frozen?_setCell]; exact kf,
          by have := hb1.size; simp [World.setCell]; omega, _, World.cell?_setCell_same w1 _ _ k2, ho1.setCell (p := ⟨g, 2, none⟩) (Nat.lt_succ_self g) _⟩
      have q3 := Lib.hid ((HK.out.trans (Ky.of_below hb1)).set2 (.slice A1 M c1))
      clear ho1 hb1 k0 k1 cf cc
      generalize hL : out ++ List.replicate (k + 1) v = L at *
      go_wp2
      go_roundw
      case rel => exact ⟨k + 1, by omega, by go_num, by rw [hL]; exact q2.out, q3.out⟩
      case measure => simp [intOf]; try omega
    · obtain rfl : k = t := by omega
      clear hj
      go_wp2
      go_returns
      exact ⟨rfl, HJ.out, HK.out⟩
end Go.Proofs.Ytchnfahgmceohaa
