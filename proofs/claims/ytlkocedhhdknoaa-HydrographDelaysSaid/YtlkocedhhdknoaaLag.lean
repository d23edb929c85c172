/- Lag, Add, Peak of the program and of the reference. -/
import Derived.Test.YtlkocedhhdknoaaSeriesLaw
import Derived.Test.YtlkocedhhdknoaaAppend
import Derived.RegionTactic
import Derived.IntWalk
namespace Go.Proofs.Ytlkocedhhdknoaa
open Go.RowKit
set_option linter.unusedVariables false

theorem Own.lower {w : World} {B B' : Nat} {v : Value} {zs : List Int} (h : Own w B v zs) (hB : B' ≤ B) : Own w B' v zs := by
  refine ⟨⟨h.row.1, ?_⟩, h.rng, h.few⟩
  rcases h.row.2 with ⟨h1, h2⟩ | ⟨g, cap, cur, h1, h2, h3⟩
  · exact .inl ⟨h1, h2⟩
  · exact .inr ⟨g, cap, cur, h1, Nat.le_trans hB h2, h3⟩
theorem zeros_rng (k : Nat) : ∀ z ∈ fl k (fun _ => 0), -9223372036854775808 ≤ z ∧ z ≤ 9223372036854775807 := fun z hz => by
  obtain ⟨_, _, rfl⟩ := fl_mem hz; omega
theorem Own.made (w : World) (B n : Nat) (hB : B ≤ w.heap.size) (h : n ≤ 17592186044416) : Own (w.alloc (.cells (madeCells #[.int .i64 0] n) 3)) B (.slice (some ⟨w.heap.size, 0, none⟩) n n) (fl n (fun _ => 0)) := by
  refine ⟨⟨by rw [Cells_length, fl_length, Nat.mul_one], .inr ⟨w.heap.size, n, madeCells #[.int .i64 0] n, by rw [fl_length], hB, heap_alloc_new w _, by rw [fl_length]; exact Nat.le_refl _, by unfold maxLen; omega, by rw [size_madeCells, Nat.mul_one], ?_⟩⟩, zeros_rng n, by rw [fl_length]; exact h⟩
  rw [toList_madeCells_one, fl_length, Nat.mul_one, List.take_of_length_le (by simp)]
  apply List.ext_getElem
  · rw [Cells_length, fl_length, List.length_replicate]
  · intro i h1 h2
    simp [Cells, fl]

set_option maxHeartbeats 600000 in
theorem Lag_in {A : Option Addr} {n c : Nat} {vs : List Int} (k : Nat) (w : World) (h : Ints w A n c vs) (hv : seriesB vs = true) (hk : k ≤ 10000) (hn : k + n ≤ 10000) :
    Calls Try.prog 31 #[.slice A n c, .int .i64 k] w (RetL (lagL vs k) 0 w) := by
  have H := Lib.hid h
  have hcap := h.cap
  have hmax := h.max
  have s := series_calls w h
  rw [hv] at s
  have S := Lib.hid s
  have n1 : ¬ (k : Int) < 0 := by omega
  have n2 : ¬ (10000 : Int) < k := by omega
  have n3 : ¬ (10000 : Int) < (k : Int) + n := by omega
  clear s h hv
  go_enter Try.func31, Try.ntmps31
  go_wp2_with fail
  refine S.out.mono ?_
  rintro e w1 ⟨rfl, b1⟩
  have hmk := make_ints k (by omega)
  have z : Ints ((w1.alloc (.cells (madeCells #[.int .i64 0] k) 3)).alloc (.cells #[.slice (some ⟨w1.heap.size, 0, none⟩) k k, .slice A n c] 22)) (some ⟨w1.heap.size, 0, none⟩) k k (fl k (fun _ => 0)) :=
    ((Row.made w1 k).ints (Nat.le_refl k) (by omega) (by omega) (fun _ _ => by omega)).alloc _
  have v := ((H.out.below b1).alloc (.cells (madeCells #[.int .i64 0] k) 3)).alloc (.cells #[.slice (some ⟨w1.heap.size, 0, none⟩) k k, .slice A n c] 22)
  have t := two_cells (w := w1.alloc (.cells (madeCells #[.int .i64 0] k) 3)) (g := 0) (a := .slice (some ⟨w1.heap.size, 0, none⟩) k k) (b := .slice A n c) (t := 22)
  simp only [World.size_alloc] at t
  have cc := Concat_two (w1.heap.size + 1) _ (by simp) t.1 t.2 z v (by omega)
  have CC := Lib.hid cc
  have B1 := Lib.hid b1
  clear z v t cc b1
  go_wp2_with fail
  refine CC.out.mono ?_
  rintro e w2 ⟨u, rfl, ho, hb⟩
  have R1 := Lib.hid (ho.lower (show w.heap.size ≤ _ by simp; have := B1.out.size; omega))
  have R2 := Lib.hid (below_then ((B1.out.alloc B1.out.size (.cells (madeCells #[.int .i64 0] k) 3)).alloc (by simp; have := B1.out.size; omega) (.cells #[.slice (some ⟨w1.heap.size, 0, none⟩) k k, .slice A n c] 22)) hb (by simp; have := B1.out.size; omega))
  clear ho hb hmk
  go_wp2
  go_returns
  exact RetL.own R1.out R2.out

set_option maxHeartbeats 600000 in
theorem Lag_inR {A : Option Addr} {n c : Nat} {vs : List Int} (k : Nat) (w : World) (h : Ints w A n c vs) (hv : seriesB vs = true) (hk : k ≤ 10000) (hn : k + n ≤ 10000) :
    Calls Try.prog 37 #[.slice A n c, .int .i64 k] w (RetL (lagL vs k) 0 w) := by
  have H := Lib.hid h
  have hcap := h.cap
  have hmax := h.max
  have HL := Lib.hid h.len
  have s := Series_ref w h
  rw [hv] at s
  have S := Lib.hid s
  have n1 : ¬ (k : Int) < 0 := by omega
  have n2 : ¬ (10000 : Int) < k := by omega
  have n3 : ¬ (10000 : Int) < (n : Int) + k := by omega
  have hmk := make_ints k (by omega)
  have HO := Lib.hid (Own.made w w.heap.size k (Nat.le_refl _) (by omega))
  have HI := Lib.hid (h.alloc (.cells (madeCells #[.int .i64 0] k) 3))
  clear s h hv
  go_enter Try.func37, Try.ntmps37
  go_wp2_with fail
  refine S.out.mono ?_
  rintro e w1 ⟨rfl, rfl⟩
  go_wp2_with (at_builtin; refine wpList_append_ints _ w.heap.size _ (fl k (fun _ => 0)) A n c vs rfl _ _ rfl rfl rfl HO.out (by simp) HI.out (by rw [fl_length, HL.out]; omega) ?_)
  intro v' w2 ho hb
  have R1 := Lib.hid ho
  have R2 := Lib.hid (((Below.refl w.heap.size w).alloc (Nat.le_refl _) (.cells (madeCells #[.int .i64 0] k) 3)).trans hb)
  clear ho hb hmk
  go_wp2
  go_returns
  exact RetL.own R1.out R2.out
end Go.Proofs.Ytlkocedhhdknoaa
