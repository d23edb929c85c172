/- The closures that ask whether a record is not valid; the first records of a slice. -/
import Derived.Test.YtchnfahgmceohaaMReads13

namespace Go.Proofs.Ytchnfahgmceohaa
open Go.RowKit
set_option linter.unusedVariables false

def notD (s : SerD) : Bool := !validD s
set_option maxHeartbeats 1000000 in
theorem cuts1_calls {A : Option Addr} {n c : Nat} (s : SerD) (w : World) (h : Ints w A n c s.ds) :
    Calls Try.prog 15 #[serA s.f s.st A n c] w fun e w' => e = .returned (.bool (notD s)) ∧ Below w.heap.size w w' := by
  unfold notD validD
  have hb : Below w.heap.size w (w.alloc (serO s.f s.st A n c)) := (Below.refl w.heap.size w).alloc (Nat.le_refl _) (serO s.f s.st A n c)
  have gv := gValid_calls s.f s.st _ (h.below hb)
  obtain ⟨s0, s1, s2, sl⟩ := SBox.made w s.f s.st A n c
  have HB := Lib.hid hb
  generalize validS s.f s.st s.ds = V at *
  generalize s.f = f at *
  generalize s.st = st at *
  have GV := Lib.hid gv
  clear h gv hb
  go_enter Try.func15, Try.ntmps15
  go_wp2_with fail
  refine (GV.out).mono ?_
  rintro e w1 ⟨rfl, b1⟩
  have B1 := Lib.hid (HB.out.trans (b1.mono HB.out.size))
  clear b1
  go_wp2
  go_ret
  exact ⟨rfl, B1.out⟩
set_option maxHeartbeats 1000000 in
theorem back1_calls {A : Option Addr} {n c : Nat} (s : SerD) (w : World) (h : Ints w A n c s.ds) :
    Calls Try.prog 32 #[serA s.f s.st A n c] w fun e w' => e = .returned (.bool (notD s)) ∧ Below w.heap.size w w' := by
  unfold notD validD
  have hb : Below w.heap.size w (w.alloc (serO s.f s.st A n c)) := (Below.refl w.heap.size w).alloc (Nat.le_refl _) (serO s.f s.st A n c)
  have gv := gValid_calls s.f s.st _ (h.below hb)
  obtain ⟨s0, s1, s2, sl⟩ := SBox.made w s.f s.st A n c
  have HB := Lib.hid hb
  generalize validS s.f s.st s.ds = V at *
  generalize s.f = f at *
  generalize s.st = st at *
  have GV := Lib.hid gv
  clear h gv hb
  go_enter Try.func32, Try.ntmps32
  go_wp2_with fail
  refine (GV.out).mono ?_
  rintro e w1 ⟨rfl, b1⟩
  have B1 := Lib.hid (HB.out.trans (b1.mono HB.out.size))
  clear b1
  go_wp2
  go_ret
  exact ⟨rfl, B1.out⟩
theorem any_bad {ss : List SerD} (h : ss.any notD = false) : ∀ s ∈ ss, validD s = true := by
  rw [List.any_eq_false] at h
  intro s hs
  have := h s hs
  unfold notD at this
  simpa using this
theorem Sers.take {w : World} {A : Option Addr} {n c : Nat} {ss : List SerD} (h : Sers w A n c ss) {k : Nat} (hk : k ≤ n) : Sers w A k c (ss.take k) := by
  refine ⟨by rw [List.length_take, h.len]; omega, by have := h.cap; omega, h.max, by have := h.few; omega, fun hn => ?_, h.nl⟩
  obtain ⟨ad, rfl, hl, hc⟩ := h.mem (by omega)
  refine ⟨ad, rfl, hl, fun j hj => ?_⟩
  have e : sl (ss.take k) j = sl ss j := by unfold sl; rw [List.getD_eq_getElem?_getD, List.getD_eq_getElem?_getD, List.getElem?_take, if_pos hj]
  rw [e]
  exact hc j (by omega)
theorem allV_of {ss : List SerD} (h : ∀ s ∈ ss, validD s = true) : allV ss = true := by
  unfold allV; rw [List.all_eq_true]; exact h
theorem EncV_of {ss : List SerD} (h : ∀ s ∈ ss, validD s = true) (hm : ss.length ≤ 8) : EncV ss = (encL ss, 0) := by
  unfold EncV
  rw [if_neg (by omega), if_pos (allV_of h)]
theorem few_small {ss : List SerD} (h : largeB ss = false) (hm : ss.length ≤ 8) (hv : ∀ s ∈ ss, validD s = true) : ∀ s ∈ ss, s.ds.length ≤ 200 := by
  intro s hs
  have h1 := (few_of h).2 s hs
  have h2 := (validS_parts (hv s hs)).1.n1
  omega
theorem FewR.take {ss : List SerD} (h : FewR ss) (hm : ss.length ≤ 8) (k : Nat) : FewR (ss.take k) :=
  ⟨.inl (by rw [List.length_take]; omega), fun s hs => h.2 s (List.mem_of_mem_take hs)⟩
theorem enc_len8 {ss : List SerD} (hd : ∀ s ∈ ss, s.ds.length ≤ 200) (hm : ss.length ≤ 8) : 3 ≤ (encL ss).length ∧ (encL ss).length ≤ 40000 := by
  have h := encTo_len hd ss.length (Nat.le_refl _)
  rw [encTo_all] at h
  refine ⟨?_, by omega⟩
  unfold encL
  rw [List.length_append]
  simp
end Go.Proofs.Ytchnfahgmceohaa

/- A slice of one record; a byte stored into an own slice. -/
namespace Go.Proofs.Ytchnfahgmceohaa
open Go.RowKit
set_option linter.unusedVariables false

theorem Sers.one {w : World} {A : Option Addr} {n c : Nat} {s : SerD} (h : Ints w A n c s.ds) : Sers (w.alloc (serO s.f s.st A n c)) (some ⟨w.heap.size, 0, none⟩) 1 1 [s] := by
  have b := SBox.made w s.f s.st A n c
  refine ⟨rfl, Nat.le_refl _, by omega, by omega, fun _ => ⟨_, rfl, by simp, fun j hj => ?_⟩, fun e => by cases e⟩
  obtain rfl : j = 0 := by omega
  exact ⟨A, n, c, b.c0, b.c1, b.c2, h.alloc _⟩
/-- The own slice of bytes as a row. -/
theorem OwnB.asRow {w : World} {B : Nat} {v : Value} {zs : List Int} (h : OwnB w B v zs) (hn : 0 < zs.length) : ∃ g c, v = .slice (some ⟨g, 0, none⟩) zs.length c ∧ B ≤ g ∧ zs.length ≤ c ∧ c ≤ 9223372036854775807 ∧ g < w.heap.size ∧ (∀ j, j < zs.length → w.cell? ⟨g, j, none⟩ = some (.int .u8 (el zs j))) ∧ ∀ j, w.frozen? ⟨g, j, none⟩ = false := by
  rcases h.row.2 with ⟨_, h0⟩ | ⟨g, cap, cur, rfl, hb, hg, hnc, hm, hsz, htk⟩
  · omega
  · refine ⟨g, cap, rfl, hb, hnc, hm, (h.row.lt g rfl).2, fun j hj => ?_, fun j => ?_⟩
    · have := h.row.cells rfl j _ (BCells_get zs j hj)
      rwa [show (⟨g, 0, none⟩ : Addr).add j = ⟨g, j, none⟩ from by rw [Addr.add_lit, Nat.zero_add]] at this
    · simp [World.frozen?, hg]
/-- A byte is stored. -/
theorem Byts.store {w : World} {g c : Nat} {zs : List Int} (hl : g < w.heap.size) (hc : zs.length ≤ c) (hm : c ≤ 9223372036854775807) (hf : zs.length ≤ 17592186044416) (hr : ∀ z ∈ zs, 0 ≤ z ∧ z ≤ 255)
    (hx : ∀ j, j < zs.length → w.cell? ⟨g, j, none⟩ = some (.int .u8 (el zs j))) {k : Nat} (hk : k < zs.length) (y : Int) (hy : 0 ≤ y ∧ y ≤ 255) : Byts (w.setCell ⟨g, k, none⟩ (.int .u8 y)) (some ⟨g, 0, none⟩) zs.length c (zs.set k y) := by
  refine ⟨List.length_set, hc, hm, by omega, fun z hz => ?_, fun _ => ⟨_, rfl, by simp [World.setCell]; exact hl, fun j hj => ?_⟩, fun e => by cases e⟩
  · rcases List.mem_or_eq_of_mem_set hz with h | h
    · exact hr z h
    · rw [h]; exact hy
  · rw [show (⟨g, 0, none⟩ : Addr).add j = ⟨g, j, none⟩ from by rw [Addr.add_lit, Nat.zero_add]]
    by_cases hjk : k = j
    · subst hjk
      rw [World.cell?_setCell_same _ _ _ (hx k hk)]
      unfold el; rw [List.getD_eq_getElem?_getD, List.getElem?_set_self hk]; rfl
    · rw [World.cell?_setCell_other _ _ _ _ (by intro e; injection e with e1 e2; omega), hx j hj]
      unfold el; rw [List.getD_eq_getElem?_getD, List.getD_eq_getElem?_getD, List.getElem?_set_ne hjk]
end Go.Proofs.Ytchnfahgmceohaa
