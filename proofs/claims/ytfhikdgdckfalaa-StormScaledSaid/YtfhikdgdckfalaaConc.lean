/- slices.Concat of two lists. -/
import Derived.Test.YtfhikdgdckfalaaMB13
import Derived.Laws.AppendOwnNone
import Derived.Lib.AppendZeros
import Derived.WalkSpells
import Derived.Handy
namespace Go.Proofs.Ytfhikdgdckfalaa
open Go.RowKit
set_option linter.unusedVariables false

set_option maxHeartbeats 600000 in
theorem Grow_nil (n : Nat) (hn : n ≤ 1000000) (w : World) :
    Calls Try.prog 61 #[.slice none 0 0, .int .i64 n] w fun e w' => ∃ v, e = .returned v ∧ Own w' w.heap.size v [] ∧ Below w.heap.size w w' := by
  obtain ⟨i0, hi0, hz0, hz1, hz2⟩ := info_parts info_int
  by_cases h0 : n = 0
  · subst h0
    go_enter Try.func61, Try.ntmps61
    go_wp2
    go_ret
    exact ⟨_, rfl, Own.nil _ _, Below.refl _ _⟩
  · have hr := fun ty => Lib.run_append_nil_zeros (P := Try.prog) w 23 3 ty 3 i0 (.int .i64 0) .i64 .i64 Try.underlying23 Try.underlying3 hi0 hz0 n (by omega) (by omega) (by omega) (by rw [hz2]; omega)
    have hG1 := grownCap_ge w n 0 3
    have hG2 := grownCap_le_maxLen w n 0 3 (by unfold maxLen; omega)
    generalize grownCap w n 0 3 = G at *
    have hsz : (Builtin.zeroCells (Value.int .i64 0).cells n ++ Builtin.zeroCells (Value.int .i64 0).cells (G - n)).size = G * 1 := by
      rw [Array.size_append, size_zeroCells, size_zeroCells, show (Value.int IntKind.i64 0).cells.size = 1 from rfl]; omega
    generalize Builtin.zeroCells (Value.int .i64 0).cells n ++ Builtin.zeroCells (Value.int .i64 0).cells (G - n) = cur at *
    have HO : Hid (Own (w.drew.alloc (.cells cur 3)) w.heap.size (.slice (some ⟨w.heap.size, 0, none⟩) 0 G) []) := Lib.hid ⟨World.ownsRow_made w.drew cur G (Nat.le_refl _) hG2 hsz, by simp, by simp⟩
    have HB : Hid (Below w.heap.size w (w.drew.alloc (.cells cur 3))) := Lib.hid ((Below.refl w.heap.size w).drew.alloc (Nat.le_refl _) _)
    have HR := Lib.hid hr
    have p1 : ¬ (n : Int) < 0 := by omega
    have p2 : 0 < (n : Int) := by omega
    have p3 : n ≤ G := by omega
    unfold maxLen at hG2
    clear h0 hr hsz hi0 hz0 hz1 hz2
    go_enter Try.func61, Try.ntmps61
    go_wp2_with (at_builtin; refine Lib.wpList_append_run _ rfl _ _ _ _ rfl _ _ rfl rfl _ _ (HR.out _) ?_)
    go_wp2
    go_ret
    exact ⟨_, rfl, HO.out, HB.out⟩

theorem two_cells {w : World} {g : Nat} {a b : Value} {t : TypeId} : (w.alloc (.cells #[a, b] t)).cell? ⟨w.heap.size, 0, none⟩ = some a ∧ (w.alloc (.cells #[a, b] t)).cell? ⟨w.heap.size, 1, none⟩ = some b := by
  refine ⟨?_, ?_⟩ <;> (rw [World.cell?_alloc_new]; rfl)

set_option maxHeartbeats 1000000 in
theorem Concat_two {A A' : Option Addr} {n c n' c' : Nat} {zs ys : List Int} (g : Nat) (w : World) (hg : g < w.heap.size) (h0 : w.cell? ⟨g, 0, none⟩ = some (.slice A n c)) (h1 : w.cell? ⟨g, 1, none⟩ = some (.slice A' n' c'))
    (h : Ints w A n c zs) (h' : Ints w A' n' c' ys) (hn : n + n' ≤ 1000000) :
    Calls Try.prog 42 #[.slice (some ⟨g, 0, none⟩) 2 2] w fun e w' => ∃ v, e = .returned v ∧ Own w' w.heap.size v (zs ++ ys) ∧ Below w.heap.size w w' := by
  have H := Lib.hid h
  have H' := Lib.hid h'
  have HL := Lib.hid h.len
  have HL' := Lib.hid h'.len
  have C0 := Lib.hid h0
  have C1 := Lib.hid h1
  have hcap := h.cap
  have hmax := h.max
  have hcap' := h'.cap
  have hmax' := h'.max
  have G := Lib.hid (Grow_nil (n + n') hn w)
  have HG := Lib.hid hg
  clear h h' h0 h1 hg
  go_enter Try.func42, Try.ntmps42
  go_wp2
  go_loop [3, 11] (fun s i => (s = .int .i64 0 ∧ i = .int .i64 0) ∨ (s = .int .i64 n ∧ i = .int .i64 1) ∨ (s = .int .i64 ((n + n' : Nat) : Int) ∧ i = .int .i64 2)) (fun _ i => 2 - (intOf i).toNat)
  case atStart => exact .inl ⟨rfl, rfl⟩
  case round =>
    rcases hrel with ⟨rfl, rfl⟩ | ⟨rfl, rfl⟩ | ⟨rfl, rfl⟩
    · have c0 := C0.out
      go_wp2
      go_round
      case rel => exact .inr (.inl ⟨rfl, rfl⟩)
      case measure => simp [intOf]
    · have c1 := C1.out
      go_wp2
      go_round
      case rel => exact .inr (.inr ⟨by go_num, rfl⟩)
      case measure => simp [intOf]
    · go_wp2_with fail
      refine G.out.mono ?_
      rintro e w1 ⟨v, rfl, ho, hb⟩
      have HO := Lib.hid ho
      have HB := Lib.hid hb
      clear ho hb
      go_wp2
      go_loopw [6, 27] (fun v i wr => Below w.heap.size w wr ∧ ((Own wr w.heap.size v [] ∧ i = .int .i64 0) ∨ (Own wr w.heap.size v zs ∧ i = .int .i64 1) ∨ (Own wr w.heap.size v (zs ++ ys) ∧ i = .int .i64 2))) (fun _ i _ => 2 - (intOf i).toNat)
      case atStart => exact ⟨HB.out, .inl ⟨HO.out, rfl⟩⟩
      case round =>
        obtain ⟨hbe, ⟨hown, rfl⟩ | ⟨hown, rfl⟩ | ⟨hown, rfl⟩⟩ := hrel
        · have c0 := (hbe.cell (p := ⟨g, 0, none⟩) HG.out).trans C0.out
          have HI := Lib.hid (H.out.below hbe)
          have HOW := Lib.hid hown
          have HBE := Lib.hid hbe
          clear hown hbe
          go_wp2_with (at_builtin; refine wpList_append_ints _ w.heap.size _ [] A n c zs rfl _ _ rfl rfl rfl HOW.out HBE.out.size HI.out (by rw [HL.out]; simp; omega) ?_)
          intro v' w2 ho hb
          have R1 := Lib.hid ho
          have R2 := Lib.hid (HBE.out.trans hb)
          clear ho hb
          go_wp2
          go_roundw
          case rel => exact ⟨R2.out, .inr (.inl ⟨R1.out, rfl⟩)⟩
          case measure => simp [intOf]
        · have c1 := (hbe.cell (p := ⟨g, 1, none⟩) HG.out).trans C1.out
          have HI := Lib.hid (H'.out.below hbe)
          have HOW := Lib.hid hown
          have HBE := Lib.hid hbe
          clear hown hbe
          go_wp2_with (at_builtin; refine wpList_append_ints _ w.heap.size _ zs A' n' c' ys rfl _ _ rfl rfl rfl HOW.out HBE.out.size HI.out (by rw [HL.out, HL'.out]; omega) ?_)
          intro v' w2 ho hb
          have R1 := Lib.hid ho
          have R2 := Lib.hid (HBE.out.trans hb)
          clear ho hb
          go_wp2
          go_roundw
          case rel => exact ⟨R2.out, .inr (.inr ⟨R1.out, rfl⟩)⟩
          case measure => simp [intOf]
        · have HOW := Lib.hid hown
          have HBE := Lib.hid hbe
          clear hown hbe
          go_wp2
          go_ret
          exact ⟨_, rfl, HOW.out, HBE.out⟩
end Go.Proofs.Ytfhikdgdckfalaa
