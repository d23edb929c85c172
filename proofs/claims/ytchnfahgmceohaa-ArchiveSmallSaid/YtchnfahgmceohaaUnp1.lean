/- The closure of Unpack. -/
import Derived.Test.YtchnfahgmceohaaNum
namespace Go.Proofs.Ytchnfahgmceohaa
open Go.RowKit
set_option linter.unusedVariables false

/-- From w to w' no block up to p was written but g. -/
structure Ky (g p : Nat) (w w' : World) : Prop where
  os : w'.os = w.os
  tape : w'.tape = w.tape
  output : w'.output = w.output
  size : w.heap.size ≤ w'.heap.size
  block : ∀ k, k ≤ p → k ≠ g → w'.heap[k]? = w.heap[k]?
theorem Ky.refl (g p : Nat) (w : World) : Ky g p w w := ⟨rfl, rfl, rfl, Nat.le_refl _, fun _ _ _ => rfl⟩
theorem Ky.trans {g p : Nat} {a b c : World} (h : Ky g p a b) (k : Ky g p b c) : Ky g p a c :=
  ⟨k.os.trans h.os, k.tape.trans h.tape, k.output.trans h.output, Nat.le_trans h.size k.size, fun i hi hne => (k.block i hi hne).trans (h.block i hi hne)⟩
theorem Ky.of_below {g p : Nat} {w w' : World} (h : Below (p + 1) w w') : Ky g p w w' := ⟨h.os, h.tape, h.output, h.size, fun k hk _ => h.block k (by omega)⟩
theorem Ky.set {g p : Nat} {a w : World} (h : Ky g p a w) (u : Value) : Ky g p a (w.setCell ⟨g, 0, none⟩ u) :=
  h.trans ⟨rfl, rfl, rfl, by simp [World.setCell], fun k _ hne => Below.heap_setCell _ _ _ _ hne⟩
theorem Ky.below {g p : Nat} {w w' : World} (h : Ky g p w w') (hg : g ≤ p) : Below g w w' := ⟨h.os, h.tape, h.output, h.size, fun k hk => h.block k (by omega) (by omega)⟩
/-- What the closure keeps: the integers so far. -/
structure JU (g p : Nat) (w : World) (out : List Int) : Prop where
  o : ∃ v, Cel w g v ∧ Own w (p + 1) v out
theorem Own.slice {w : World} {B : Nat} {v : Value} {zs : List Int} (h : Own w B v zs) : ∃ A c, v = .slice A zs.length c := by
  obtain ⟨A, n, c, rfl, hi, _⟩ := h.ints
  exact ⟨A, c, by rw [hi.len]⟩
theorem JU.num {g p : Nat} {w w' : World} {out : List Int} (h : JU g p w out) (hg : g < p) (hw : w.grownBy w' (some p)) : JU g p w' out := by
  obtain ⟨v, ⟨c, f, l⟩, o⟩ := h.o
  have hb : Below (g + 1) w w' := ⟨hw.os, hw.tape, hw.output, hw.size, fun k hk => hw.block k (by omega) (by intro e; injection e with e; omega)⟩
  exact ⟨v, (Cel.mk c f l).below hb (by omega), ⟨o.row.kept (row := some p) hw (by
    rcases hv : v.ownBlock with _ | k
    · exact .inl rfl
    · refine .inr ?_
      intro e
      have := (o.row.lt k hv).1
      injection e with e
      omega), o.rng, o.few⟩⟩

set_option maxRecDepth 100000 in
set_option maxHeartbeats 1000000 in
theorem unpack1_calls (g p : Nat) (out : List Int) (v : Int) (t : Nat) (w : World) (h : JU g p w out) (hg : g < p) (hp : p < w.heap.size) (hv : -9223372036854775808 ≤ v ∧ v ≤ 9223372036854775807) (ht : (t : Int) ≤ 1000000) (hl : out.length ≤ 1000000) :
    Calls Try.prog 51 #[.int .i64 v, .int .i64 t, .pointer (some ⟨g, 0, none⟩)] w fun e w' => e = .returned (.tuple #[]) ∧ JU g p w' (out ++ List.replicate t v) ∧ Ky g p w w' := by
  have H := Lib.hid h
  clear h
  go_enter Try.func51, Try.ntmps51
  go_wp2
  go_loopw [6] (fun i wr => ∃ k : Nat, k ≤ t ∧ i = .int .i64 k ∧ JU g p wr (out ++ List.replicate k v) ∧ Ky g p w wr) (fun i _ => t - (intOf i).toNat)
  case atStart => exact ⟨0, Nat.zero_le _, rfl, by rw [List.replicate_zero, List.append_nil]; exact H.out, Ky.refl _ _ _⟩
  case round =>
    obtain ⟨k, hk, rfl, hj, hky⟩ := hrel
    have HK := Lib.hid hky
    have hsz : p + 1 ≤ wr.heap.size := Nat.le_trans hp hky.size
    clear hky
    by_cases hlt : k < t
    · obtain ⟨cv, ⟨cc, cf, cl⟩, ho⟩ := hj.o
      obtain ⟨A, c, rfl⟩ := ho.slice
      obtain ⟨N, hN⟩ : ∃ N, (out ++ List.replicate k v).length = N := ⟨_, rfl⟩
      have hNl : N ≤ 2000000 := by rw [← hN]; simp; omega
      rw [hN] at cc ho
      have HO := Lib.hid ho
      have HCL : Hid (Cel wr g (.slice A N c)) := Lib.hid ⟨cc, cf, cl⟩
      have HE : Hid (out ++ (List.replicate k v ++ [v]) = out ++ List.replicate (k + 1) v) := Lib.hid (by rw [← List.replicate_succ'])
      clear hj ho
      go_wp2_with (at_builtin; refine wpList_append_int wr (p + 1) _ (out ++ List.replicate k v) v rfl _ _ rfl rfl rfl HO.out hsz (by rw [hN]; omega) hv ?_)
      intro v' w1 ho1 hb1
      rw [HE.out] at ho1
      obtain ⟨A1, c1, rfl⟩ := ho1.slice
      have q1 := HCL.out.below hb1 (by omega)
      have q2 := Lib.hid (JU.mk ⟨_, q1.set_slice (A' := A1) (n' := (out ++ List.replicate (k + 1) v).length) (c' := c1), ho1.setCell (p := ⟨g, 0, none⟩) (show g < p + 1 by omega) _⟩)
      have q3 := Lib.hid ((HK.out.trans (Ky.of_below hb1)).set (.slice A1 (out ++ List.replicate (k + 1) v).length c1))
      obtain ⟨q1c, q1f, q1l⟩ := q1
      clear ho1 hb1
      generalize hL : out ++ List.replicate (k + 1) v = L at *
      generalize hM : L.length = M at *
      go_wp2
      go_roundw
      case rel => exact ⟨k + 1, by omega, by go_num, by rw [hL]; exact q2.out, q3.out⟩
      case measure => simp [intOf]; try omega
    · obtain rfl : k = t := by omega
      have HJ := Lib.hid hj
      clear hj
      go_wp2
      go_returns
      exact ⟨rfl, HJ.out, HK.out⟩
end Go.Proofs.Ytchnfahgmceohaa
