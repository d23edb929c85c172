/- The law OpeningsPoints at spans that are not valid; at any input. -/
import Derived.Test.YtfalmbcnbomaoaaPtWalk
namespace Go.Proofs.Ytfalmbcnbomaoaa
open Go.Proofs.Ytfalmbcnbomaoaa.DivLaw Go.Proofs.Ytfalmbcnbomaoaa.Open Go.RowKit
set_option linter.unusedVariables false

set_option maxRecDepth 100000 in
set_option maxHeartbeats 4000000 in
theorem Points_out0 (n0 n1 n2 sc : ByteArray) (kd ln up dn wd ht : Int) (ca : Option Addr) (cn cc : Nat) (wb h0 h1 s0 s1 u0 u1 d0 d1 i j k : Int) (vh : validB h0 h1 = false) (w : World) :
    Calls Try.prog 10 #[.agg #[.string n0, .string n1, .string n2, .int .i64 kd, .int .i64 ln, .int .i64 up, .int .i64 dn, .string sc, .int .i64 wd, .int .i64 ht, .slice ca cn cc], .int .i64 wb, .agg #[.int .i64 h0, .int .i64 h1], .agg #[.int .i64 s0, .int .i64 s1], .agg #[.int .i64 u0, .int .i64 u1], .agg #[.int .i64 d0, .int .i64 d1], .int .u32 i, .int .u32 j, .int .u32 k] w fun e w' => e = .returned (.bool true) ∧ Below w.heap.size w w' := by
  have l0 := fun W => Valid_ref h0 h1 W
  rw [vh] at l0
  have L0 := Lib.hid l0
  clear l0 vh
  have A0 := Lib.hid (Box5.new_ h0 h1 s0 s1 u0 u1 d0 d1 n0 n1 n2 sc kd ln up dn wd ht ca cn cc w)
  have hB := Lib.hid (((((Below.refl w.heap.size w).alloc (Nat.le_refl _) (.cells #[.string n0, .string n1, .string n2, .int .i64 kd, .int .i64 ln, .int .i64 up, .int .i64 dn, .string sc, .int .i64 wd, .int .i64 ht, .slice ca cn cc] 32)).alloc (by simp) (.cells #[.int .i64 h0, .int .i64 h1] 46)).alloc (by simp; omega) (.cells #[.int .i64 s0, .int .i64 s1] 46)).alloc (by simp; omega) (.cells #[.int .i64 u0, .int .i64 u1] 46) |>.alloc (by simp; omega) (.cells #[.int .i64 d0, .int .i64 d1] 46))
  go_enter Try.func10, Try.ntmps10
  go_wp2_with fail
  refine (awake_calls _).mono ?_
  rintro e w1 ⟨rfl, hb1⟩
  have A1 := Lib.hid (A0.out.below hb1)
  have HW := Lib.hid (And.intro (hB.out.trans (hb1.mono (by simp; omega))) (show w.heap.size + 4 < w1.heap.size by have := hb1.size; simp at this; omega))
  clear A0 hb1 hB
  obtain ⟨-, ⟨ha, hb, -, -⟩, -, -, -⟩ := A1.out
  go_wp2_with fail
  refine (L0.out _).mono ?_
  rintro e w2 ⟨rfl, hb2⟩
  clear ha hb
  have A2 := Lib.hid (A1.out.below hb2)
  replace HW := Lib.hid (And.intro (HW.out.1.trans (hb2.mono (by have := HW.out.2; omega))) (show w.heap.size + 4 < w2.heap.size by have := hb2.size; have := HW.out.2; omega))
  clear hb2 A1
  go_wp2_with fail
  go_returns
  exact ⟨rfl, HW.out.1⟩

set_option maxRecDepth 100000 in
set_option maxHeartbeats 4000000 in
theorem Points_out1 (n0 n1 n2 sc : ByteArray) (kd ln up dn wd ht : Int) (ca : Option Addr) (cn cc : Nat) (wb h0 h1 s0 s1 u0 u1 d0 d1 i j k : Int) (vh : validB h0 h1 = true) (vs : validB s0 s1 = false) (w : World) :
    Calls Try.prog 10 #[.agg #[.string n0, .string n1, .string n2, .int .i64 kd, .int .i64 ln, .int .i64 up, .int .i64 dn, .string sc, .int .i64 wd, .int .i64 ht, .slice ca cn cc], .int .i64 wb, .agg #[.int .i64 h0, .int .i64 h1], .agg #[.int .i64 s0, .int .i64 s1], .agg #[.int .i64 u0, .int .i64 u1], .agg #[.int .i64 d0, .int .i64 d1], .int .u32 i, .int .u32 j, .int .u32 k] w fun e w' => e = .returned (.bool true) ∧ Below w.heap.size w w' := by
  have l0 := fun W => Valid_ref h0 h1 W
  rw [vh] at l0
  have L0 := Lib.hid l0
  have l1 := fun W => Valid_ref s0 s1 W
  rw [vs] at l1
  have L1 := Lib.hid l1
  clear l0 l1 vh vs
  have A0 := Lib.hid (Box5.new_ h0 h1 s0 s1 u0 u1 d0 d1 n0 n1 n2 sc kd ln up dn wd ht ca cn cc w)
  have hB := Lib.hid (((((Below.refl w.heap.size w).alloc (Nat.le_refl _) (.cells #[.string n0, .string n1, .string n2, .int .i64 kd, .int .i64 ln, .int .i64 up, .int .i64 dn, .string sc, .int .i64 wd, .int .i64 ht, .slice ca cn cc] 32)).alloc (by simp) (.cells #[.int .i64 h0, .int .i64 h1] 46)).alloc (by simp; omega) (.cells #[.int .i64 s0, .int .i64 s1] 46)).alloc (by simp; omega) (.cells #[.int .i64 u0, .int .i64 u1] 46) |>.alloc (by simp; omega) (.cells #[.int .i64 d0, .int .i64 d1] 46))
  go_enter Try.func10, Try.ntmps10
  go_wp2_with fail
  refine (awake_calls _).mono ?_
  rintro e w1 ⟨rfl, hb1⟩
  have A1 := Lib.hid (A0.out.below hb1)
  have HW := Lib.hid (And.intro (hB.out.trans (hb1.mono (by simp; omega))) (show w.heap.size + 4 < w1.heap.size by have := hb1.size; simp at this; omega))
  clear A0 hb1 hB
  obtain ⟨-, ⟨ha, hb, -, -⟩, -, -, -⟩ := A1.out
  go_wp2_with fail
  refine (L0.out _).mono ?_
  rintro e w2 ⟨rfl, hb2⟩
  clear ha hb
  have A2 := Lib.hid (A1.out.below hb2)
  replace HW := Lib.hid (And.intro (HW.out.1.trans (hb2.mono (by have := HW.out.2; omega))) (show w.heap.size + 4 < w2.heap.size by have := hb2.size; have := HW.out.2; omega))
  clear hb2 A1
  obtain ⟨-, -, ⟨ha, hb, -, -⟩, -, -⟩ := A2.out
  go_wp2_with fail
  refine (L1.out _).mono ?_
  rintro e w3 ⟨rfl, hb2⟩
  clear ha hb
  have A3 := Lib.hid (A2.out.below hb2)
  replace HW := Lib.hid (And.intro (HW.out.1.trans (hb2.mono (by have := HW.out.2; omega))) (show w.heap.size + 4 < w3.heap.size by have := hb2.size; have := HW.out.2; omega))
  clear hb2 A2
  go_wp2_with fail
  go_returns
  exact ⟨rfl, HW.out.1⟩

set_option maxRecDepth 100000 in
set_option maxHeartbeats 4000000 in
theorem Points_out2 (n0 n1 n2 sc : ByteArray) (kd ln up dn wd ht : Int) (ca : Option Addr) (cn cc : Nat) (wb h0 h1 s0 s1 u0 u1 d0 d1 i j k : Int) (vh : validB h0 h1 = true) (vs : validB s0 s1 = true) (vu : validB u0 u1 = false) (w : World) :
    Calls Try.prog 10 #[.agg #[.string n0, .string n1, .string n2, .int .i64 kd, .int .i64 ln, .int .i64 up, .int .i64 dn, .string sc, .int .i64 wd, .int .i64 ht, .slice ca cn cc], .int .i64 wb, .agg #[.int .i64 h0, .int .i64 h1], .agg #[.int .i64 s0, .int .i64 s1], .agg #[.int .i64 u0, .int .i64 u1], .agg #[.int .i64 d0, .int .i64 d1], .int .u32 i, .int .u32 j, .int .u32 k] w fun e w' => e = .returned (.bool true) ∧ Below w.heap.size w w' := by
  have l0 := fun W => Valid_ref h0 h1 W
  rw [vh] at l0
  have L0 := Lib.hid l0
  have l1 := fun W => Valid_ref s0 s1 W
  rw [vs] at l1
  have L1 := Lib.hid l1
  have l2 := fun W => Valid_ref u0 u1 W
  rw [vu] at l2
  have L2 := Lib.hid l2
  clear l0 l1 l2 vh vs vu
  have A0 := Lib.hid (Box5.new_ h0 h1 s0 s1 u0 u1 d0 d1 n0 n1 n2 sc kd ln up dn wd ht ca cn cc w)
  have hB := Lib.hid (((((Below.refl w.heap.size w).alloc (Nat.le_refl _) (.cells #[.string n0, .string n1, .string n2, .int .i64 kd, .int .i64 ln, .int .i64 up, .int .i64 dn, .string sc, .int .i64 wd, .int .i64 ht, .slice ca cn cc] 32)).alloc (by simp) (.cells #[.int .i64 h0, .int .i64 h1] 46)).alloc (by simp; omega) (.cells #[.int .i64 s0, .int .i64 s1] 46)).alloc (by simp; omega) (.cells #[.int .i64 u0, .int .i64 u1] 46) |>.alloc (by simp; omega) (.cells #[.int .i64 d0, .int .i64 d1] 46))
  go_enter Try.func10, Try.ntmps10
  go_wp2_with fail
  refine (awake_calls _).mono ?_
  rintro e w1 ⟨rfl, hb1⟩
  have A1 := Lib.hid (A0.out.below hb1)
  have HW := Lib.hid (And.intro (hB.out.trans (hb1.mono (by simp; omega))) (show w.heap.size + 4 < w1.heap.size by have := hb1.size; simp at this; omega))
  clear A0 hb1 hB
  obtain ⟨-, ⟨ha, hb, -, -⟩, -, -, -⟩ := A1.out
  go_wp2_with fail
  refine (L0.out _).mono ?_
  rintro e w2 ⟨rfl, hb2⟩
  clear ha hb
  have A2 := Lib.hid (A1.out.below hb2)
  replace HW := Lib.hid (And.intro (HW.out.1.trans (hb2.mono (by have := HW.out.2; omega))) (show w.heap.size + 4 < w2.heap.size by have := hb2.size; have := HW.out.2; omega))
  clear hb2 A1
  obtain ⟨-, -, ⟨ha, hb, -, -⟩, -, -⟩ := A2.out
  go_wp2_with fail
  refine (L1.out _).mono ?_
  rintro e w3 ⟨rfl, hb2⟩
  clear ha hb
  have A3 := Lib.hid (A2.out.below hb2)
  replace HW := Lib.hid (And.intro (HW.out.1.trans (hb2.mono (by have := HW.out.2; omega))) (show w.heap.size + 4 < w3.heap.size by have := hb2.size; have := HW.out.2; omega))
  clear hb2 A2
  obtain ⟨-, -, -, ⟨ha, hb, -, -⟩, -⟩ := A3.out
  go_wp2_with fail
  refine (L2.out _).mono ?_
  rintro e w4 ⟨rfl, hb2⟩
  clear ha hb
  have A4 := Lib.hid (A3.out.below hb2)
  replace HW := Lib.hid (And.intro (HW.out.1.trans (hb2.mono (by have := HW.out.2; omega))) (show w.heap.size + 4 < w4.heap.size by have := hb2.size; have := HW.out.2; omega))
  clear hb2 A3
  go_wp2_with fail
  go_returns
  exact ⟨rfl, HW.out.1⟩

set_option maxRecDepth 100000 in
set_option maxHeartbeats 4000000 in
theorem Points_out3 (n0 n1 n2 sc : ByteArray) (kd ln up dn wd ht : Int) (ca : Option Addr) (cn cc : Nat) (wb h0 h1 s0 s1 u0 u1 d0 d1 i j k : Int) (vh : validB h0 h1 = true) (vs : validB s0 s1 = true) (vu : validB u0 u1 = true) (vd : validB d0 d1 = false) (w : World) :
    Calls Try.prog 10 #[.agg #[.string n0, .string n1, .string n2, .int .i64 kd, .int .i64 ln, .int .i64 up, .int .i64 dn, .string sc, .int .i64 wd, .int .i64 ht, .slice ca cn cc], .int .i64 wb, .agg #[.int .i64 h0, .int .i64 h1], .agg #[.int .i64 s0, .int .i64 s1], .agg #[.int .i64 u0, .int .i64 u1], .agg #[.int .i64 d0, .int .i64 d1], .int .u32 i, .int .u32 j, .int .u32 k] w fun e w' => e = .returned (.bool true) ∧ Below w.heap.size w w' := by
  have l0 := fun W => Valid_ref h0 h1 W
  rw [vh] at l0
  have L0 := Lib.hid l0
  have l1 := fun W => Valid_ref s0 s1 W
  rw [vs] at l1
  have L1 := Lib.hid l1
  have l2 := fun W => Valid_ref u0 u1 W
  rw [vu] at l2
  have L2 := Lib.hid l2
  have l3 := fun W => Valid_ref d0 d1 W
  rw [vd] at l3
  have L3 := Lib.hid l3
  clear l0 l1 l2 l3 vh vs vu vd
  have A0 := Lib.hid (Box5.new_ h0 h1 s0 s1 u0 u1 d0 d1 n0 n1 n2 sc kd ln up dn wd ht ca cn cc w)
  have hB := Lib.hid (((((Below.refl w.heap.size w).alloc (Nat.le_refl _) (.cells #[.string n0, .string n1, .string n2, .int .i64 kd, .int .i64 ln, .int .i64 up, .int .i64 dn, .string sc, .int .i64 wd, .int .i64 ht, .slice ca cn cc] 32)).alloc (by simp) (.cells #[.int .i64 h0, .int .i64 h1] 46)).alloc (by simp; omega) (.cells #[.int .i64 s0, .int .i64 s1] 46)).alloc (by simp; omega) (.cells #[.int .i64 u0, .int .i64 u1] 46) |>.alloc (by simp; omega) (.cells #[.int .i64 d0, .int .i64 d1] 46))
  go_enter Try.func10, Try.ntmps10
  go_wp2_with fail
  refine (awake_calls _).mono ?_
  rintro e w1 ⟨rfl, hb1⟩
  have A1 := Lib.hid (A0.out.below hb1)
  have HW := Lib.hid (And.intro (hB.out.trans (hb1.mono (by simp; omega))) (show w.heap.size + 4 < w1.heap.size by have := hb1.size; simp at this; omega))
  clear A0 hb1 hB
  obtain ⟨-, ⟨ha, hb, -, -⟩, -, -, -⟩ := A1.out
  go_wp2_with fail
  refine (L0.out _).mono ?_
  rintro e w2 ⟨rfl, hb2⟩
  clear ha hb
  have A2 := Lib.hid (A1.out.below hb2)
  replace HW := Lib.hid (And.intro (HW.out.1.trans (hb2.mono (by have := HW.out.2; omega))) (show w.heap.size + 4 < w2.heap.size by have := hb2.size; have := HW.out.2; omega))
  clear hb2 A1
  obtain ⟨-, -, ⟨ha, hb, -, -⟩, -, -⟩ := A2.out
  go_wp2_with fail
  refine (L1.out _).mono ?_
  rintro e w3 ⟨rfl, hb2⟩
  clear ha hb
  have A3 := Lib.hid (A2.out.below hb2)
  replace HW := Lib.hid (And.intro (HW.out.1.trans (hb2.mono (by have := HW.out.2; omega))) (show w.heap.size + 4 < w3.heap.size by have := hb2.size; have := HW.out.2; omega))
  clear hb2 A2
  obtain ⟨-, -, -, ⟨ha, hb, -, -⟩, -⟩ := A3.out
  go_wp2_with fail
  refine (L2.out _).mono ?_
  rintro e w4 ⟨rfl, hb2⟩
  clear ha hb
  have A4 := Lib.hid (A3.out.below hb2)
  replace HW := Lib.hid (And.intro (HW.out.1.trans (hb2.mono (by have := HW.out.2; omega))) (show w.heap.size + 4 < w4.heap.size by have := hb2.size; have := HW.out.2; omega))
  clear hb2 A3
  obtain ⟨-, -, -, -, ⟨ha, hb, -, -⟩⟩ := A4.out
  go_wp2_with fail
  refine (L3.out _).mono ?_
  rintro e w5 ⟨rfl, hb2⟩
  clear ha hb
  have A5 := Lib.hid (A4.out.below hb2)
  replace HW := Lib.hid (And.intro (HW.out.1.trans (hb2.mono (by have := HW.out.2; omega))) (show w.heap.size + 4 < w5.heap.size by have := hb2.size; have := HW.out.2; omega))
  clear hb2 A4
  go_wp2_with fail
  go_returns
  exact ⟨rfl, HW.out.1⟩

theorem Points_calls (n0 n1 n2 sc : ByteArray) (kd ln up dn wd ht : Int) (ca : Option Addr) (cn cc : Nat) (wb h0 h1 s0 s1 u0 u1 d0 d1 i j k : Int) (hi : 0 ≤ i ∧ i ≤ 4294967295) (hj : 0 ≤ j ∧ j ≤ 4294967295) (hk : 0 ≤ k ∧ k ≤ 4294967295) (w : World) :
    Calls Try.prog 10 #[.agg #[.string n0, .string n1, .string n2, .int .i64 kd, .int .i64 ln, .int .i64 up, .int .i64 dn, .string sc, .int .i64 wd, .int .i64 ht, .slice ca cn cc], .int .i64 wb, .agg #[.int .i64 h0, .int .i64 h1], .agg #[.int .i64 s0, .int .i64 s1], .agg #[.int .i64 u0, .int .i64 u1], .agg #[.int .i64 d0, .int .i64 d1], .int .u32 i, .int .u32 j, .int .u32 k] w fun e w' => e = .returned (.bool true) ∧ Below w.heap.size w w' := by
  cases vh : validB h0 h1
  · exact Points_out0 n0 n1 n2 sc kd ln up dn wd ht ca cn cc wb h0 h1 s0 s1 u0 u1 d0 d1 i j k vh w
  cases vs : validB s0 s1
  · exact Points_out1 n0 n1 n2 sc kd ln up dn wd ht ca cn cc wb h0 h1 s0 s1 u0 u1 d0 d1 i j k vh vs w
  cases vu : validB u0 u1
  · exact Points_out2 n0 n1 n2 sc kd ln up dn wd ht ca cn cc wb h0 h1 s0 s1 u0 u1 d0 d1 i j k vh vs vu w
  cases vd : validB d0 d1
  · exact Points_out3 n0 n1 n2 sc kd ln up dn wd ht ca cn cc wb h0 h1 s0 s1 u0 u1 d0 d1 i j k vh vs vu vd w
  · exact Points_in n0 n1 n2 sc kd ln up dn wd ht ca cn cc wb h0 h1 s0 s1 u0 u1 d0 d1 i j k vh vs vu vd hi hj hk w
end Go.Proofs.Ytfalmbcnbomaoaa
