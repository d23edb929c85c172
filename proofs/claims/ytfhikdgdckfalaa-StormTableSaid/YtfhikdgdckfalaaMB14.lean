/- Frames of storms: the program's, the reference's. -/
import Derived.Test.YtfhikdgdckfalaaMB02
import Derived.Test.YtfhikdgdckfalaaMB13
import Derived.Test.YtfhikdgdckfalaaMB09
import Derived.Test.YtfhikdgdckfalaaMB01

namespace Go.Proofs.Ytfhikdgdckfalaa
open Go.RowKit
set_option linter.unusedVariables false

/-- Whether a frame is right. -/
def stB (f st n : Int) : Bool := instB f && (decide (1 ≤ st) && (decide (st ≤ 86400) && (decide (1 ≤ n) && (decide (n ≤ 10000) && instB (f + st * n)))))
structure StOk (f st n : Int) : Prop where
  f0 : -68719476736 ≤ f
  f1 : f ≤ 68719476736
  s0 : 1 ≤ st
  s1 : st ≤ 86400
  n0 : 1 ≤ n
  n1 : n ≤ 10000
  e0 : -68719476736 ≤ f + st * n
  e1 : f + st * n ≤ 68719476736
theorem stB_iff {f st n : Int} : stB f st n = true ↔ StOk f st n := by
  unfold stB
  simp only [Bool.and_eq_true, instB_iff, decide_eq_true_eq]
  exact ⟨fun h => ⟨h.1.1, h.1.2, h.2.1, h.2.2.1, h.2.2.2.1, h.2.2.2.2.1, h.2.2.2.2.2.1, h.2.2.2.2.2.2⟩, fun h => ⟨⟨h.f0, h.f1⟩, h.s0, h.s1, h.n0, h.n1, h.e0, h.e1⟩⟩
theorem stinst_calls (t : Int) (w : World) : Calls Try.prog 62 #[.int .i64 t] w fun e w' => e = .returned (.bool (instB t)) ∧ w = w' := by
  unfold instB
  by_cases h : -68719476736 ≤ t
  · rw [decide_eq_true h, Bool.true_and]
    go_enter Try.func62, Try.ntmps62
    go_wp2
    go_ret
    exact ⟨rfl, rfl⟩
  · rw [decide_eq_false h, Bool.false_and]
    go_enter Try.func62, Try.ntmps62
    go_wp2
    go_ret
    exact ⟨rfl, rfl⟩
set_option maxHeartbeats 1000000 in
theorem frame_calls (f st n : Int) (w : World) : Calls Try.prog 43 #[.int .i64 f, .int .i64 st, .int .i64 n] w fun e w' => e = .returned (.bool (stB f st n)) ∧ w = w' := by
  have i1 := stinst_calls f w
  unfold stB
  cases h0 : instB f
  · rw [h0] at i1
    rw [Bool.false_and]
    have I1 := Lib.hid i1
    clear i1 h0
    go_enter Try.func43, Try.ntmps43
    go_wp2_with fail
    refine (I1.out).mono ?_
    rintro e w1 ⟨rfl, rfl⟩
    go_wp2
    go_ret
    exact ⟨rfl, rfl⟩
  · rw [h0] at i1
    rw [Bool.true_and]
    have h5 := instB_iff.1 h0
    have I1 := Lib.hid i1
    clear i1 h0
    by_cases h1 : 1 ≤ st
    · rw [decide_eq_true h1, Bool.true_and]
      by_cases h2 : st ≤ 86400
      · rw [decide_eq_true h2, Bool.true_and]
        by_cases h3 : 1 ≤ n
        · rw [decide_eq_true h3, Bool.true_and]
          by_cases h4 : n ≤ 10000
          · rw [decide_eq_true h4, Bool.true_and]
            have m0 : 0 ≤ st * n := Int.mul_nonneg (by omega) (by omega)
            have m1 : st * n ≤ 86400 * 10000 := Int.mul_le_mul (by omega) (by omega) (by omega) (by omega)
            obtain ⟨f0, f1⟩ := h5
            have I2 := Lib.hid (stinst_calls (f + st * n) w)
            generalize instB (f + st * n) = q at *
            obtain ⟨M, hM⟩ : ∃ M, st * n = M := ⟨_, rfl⟩
            rw [hM] at m0 m1 I2
            go_enter Try.func43, Try.ntmps43
            go_wp2_with fail
            refine (I1.out).mono ?_
            rintro e w1 ⟨rfl, rfl⟩
            go_wp2_with fail
            refine (I2.out).mono ?_
            rintro e w1 ⟨rfl, rfl⟩
            go_wp2
            go_ret
            exact ⟨rfl, rfl⟩
          · rw [decide_eq_false h4, Bool.false_and]
            go_enter Try.func43, Try.ntmps43
            go_wp2_with fail
            refine (I1.out).mono ?_
            rintro e w1 ⟨rfl, rfl⟩
            go_wp2
            go_ret
            exact ⟨rfl, rfl⟩
        · rw [decide_eq_false h3, Bool.false_and]
          go_enter Try.func43, Try.ntmps43
          go_wp2_with fail
          refine (I1.out).mono ?_
          rintro e w1 ⟨rfl, rfl⟩
          go_wp2
          go_ret
          exact ⟨rfl, rfl⟩
      · rw [decide_eq_false h2, Bool.false_and]
        go_enter Try.func43, Try.ntmps43
        go_wp2_with fail
        refine (I1.out).mono ?_
        rintro e w1 ⟨rfl, rfl⟩
        go_wp2
        go_ret
        exact ⟨rfl, rfl⟩
    · rw [decide_eq_false h1, Bool.false_and]
      go_enter Try.func43, Try.ntmps43
      go_wp2_with fail
      refine (I1.out).mono ?_
      rintro e w1 ⟨rfl, rfl⟩
      go_wp2
      go_ret
      exact ⟨rfl, rfl⟩
set_option maxHeartbeats 1000000 in
theorem Frame_ref (f st n : Int) (w : World) : Calls Try.prog 21 #[.int .i64 f, .int .i64 st, .int .i64 n] w fun e w' => e = .returned (.bool (stB f st n)) ∧ w = w' := by
  have i1 := Instant_ref f w
  unfold stB
  cases h0 : instB f
  · rw [h0] at i1
    rw [Bool.false_and]
    have I1 := Lib.hid i1
    clear i1 h0
    go_enter Try.func21, Try.ntmps21
    go_wp2_with fail
    refine (I1.out).mono ?_
    rintro e w1 ⟨rfl, rfl⟩
    go_wp2
    go_ret
    exact ⟨rfl, rfl⟩
  · rw [h0] at i1
    rw [Bool.true_and]
    have h5 := instB_iff.1 h0
    have I1 := Lib.hid i1
    clear i1 h0
    by_cases h1 : 1 ≤ st
    · rw [decide_eq_true h1, Bool.true_and]
      by_cases h2 : st ≤ 86400
      · rw [decide_eq_true h2, Bool.true_and]
        by_cases h3 : 1 ≤ n
        · rw [decide_eq_true h3, Bool.true_and]
          by_cases h4 : n ≤ 10000
          · rw [decide_eq_true h4, Bool.true_and]
            have m0 : 0 ≤ st * n := Int.mul_nonneg (by omega) (by omega)
            have m1 : st * n ≤ 86400 * 10000 := Int.mul_le_mul (by omega) (by omega) (by omega) (by omega)
            obtain ⟨f0, f1⟩ := h5
            have I2 := Lib.hid (Instant_ref (f + st * n) w)
            generalize instB (f + st * n) = q at *
            obtain ⟨M, hM⟩ : ∃ M, st * n = M := ⟨_, rfl⟩
            rw [hM] at m0 m1 I2
            go_enter Try.func21, Try.ntmps21
            go_wp2_with fail
            refine (I1.out).mono ?_
            rintro e w1 ⟨rfl, rfl⟩
            go_wp2_with fail
            refine (I2.out).mono ?_
            rintro e w1 ⟨rfl, rfl⟩
            go_wp2
            go_ret
            exact ⟨rfl, rfl⟩
          · rw [decide_eq_false h4, Bool.false_and]
            go_enter Try.func21, Try.ntmps21
            go_wp2_with fail
            refine (I1.out).mono ?_
            rintro e w1 ⟨rfl, rfl⟩
            go_wp2
            go_ret
            exact ⟨rfl, rfl⟩
        · rw [decide_eq_false h3, Bool.false_and]
          go_enter Try.func21, Try.ntmps21
          go_wp2_with fail
          refine (I1.out).mono ?_
          rintro e w1 ⟨rfl, rfl⟩
          go_wp2
          go_ret
          exact ⟨rfl, rfl⟩
      · rw [decide_eq_false h2, Bool.false_and]
        go_enter Try.func21, Try.ntmps21
        go_wp2_with fail
        refine (I1.out).mono ?_
        rintro e w1 ⟨rfl, rfl⟩
        go_wp2
        go_ret
        exact ⟨rfl, rfl⟩
    · rw [decide_eq_false h1, Bool.false_and]
      go_enter Try.func21, Try.ntmps21
      go_wp2_with fail
      refine (I1.out).mono ?_
      rintro e w1 ⟨rfl, rfl⟩
      go_wp2
      go_ret
      exact ⟨rfl, rfl⟩
/-- Whether k is an index of n. -/
def ixB (k n : Int) : Bool := decide (0 ≤ k) && decide (k < n)
theorem index_calls (k n : Int) (w : World) : Calls Try.prog 48 #[.int .i64 k, .int .i64 n] w fun e w' => e = .returned (.bool (ixB k n)) ∧ w = w' := by
  unfold ixB
  by_cases h : 0 ≤ k
  · rw [decide_eq_true h, Bool.true_and]
    go_enter Try.func48, Try.ntmps48
    go_wp2
    go_ret
    exact ⟨rfl, rfl⟩
  · rw [decide_eq_false h, Bool.false_and]
    go_enter Try.func48, Try.ntmps48
    go_wp2
    go_ret
    exact ⟨rfl, rfl⟩
end Go.Proofs.Ytfhikdgdckfalaa

/- made, Blocks, Alternating of the program. -/
namespace Go.Proofs.Ytfhikdgdckfalaa
open Go.RowKit
set_option linter.unusedVariables false

theorem fin0g {w W : World} {g : Nat} (z : ZBox W g) (hg : w.heap.size ≤ g) (hB : Below w.heap.size w W) (x : Int) : Hid (Put3 W (((W.setCell ⟨g, 0, none⟩ (.int .i64 0)).setCell ⟨g, 1, none⟩ (.int .i64 0)).setCell ⟨g, 2, none⟩ (.slice none 0 0)) g 0 0 none 0 0 ∧ RetSer (zeroS, x) w (.returned (.tuple #[serA 0 0 none 0 0, .int .i64 x])) (((W.setCell ⟨g, 0, none⟩ (.int .i64 0)).setCell ⟨g, 1, none⟩ (.int .i64 0)).setCell ⟨g, 2, none⟩ (.slice none 0 0))) := Lib.hid (by
  have P := put3 z.b z.f 0 0 none 0 0
  exact ⟨P, none, 0, 0, rfl, Ints.nil _, P.bel _ _ hg hB, fun ad e => by cases e⟩)
theorem finSg {w W : World} {g : Nat} (z : ZBox W g) (hg : w.heap.size ≤ g) (hB : Below w.heap.size w W) (s : SerD) (x : Int) {A : Option Addr} {n c : Nat} (hi : Ints W A n c s.ds) (hA : ∀ ad, A = some ad → g < ad.block) : Hid (Put3 W (((W.setCell ⟨g, 0, none⟩ (.int .i64 s.f)).setCell ⟨g, 1, none⟩ (.int .i64 s.st)).setCell ⟨g, 2, none⟩ (.slice A n c)) g s.f s.st A n c ∧ RetSer (s, x) w (.returned (.tuple #[serA s.f s.st A n c, .int .i64 x])) (((W.setCell ⟨g, 0, none⟩ (.int .i64 s.f)).setCell ⟨g, 1, none⟩ (.int .i64 s.st)).setCell ⟨g, 2, none⟩ (.slice A n c))) := Lib.hid (by
  have P := put3 z.b z.f s.f s.st A n c
  exact ⟨P, A, n, c, rfl, P.int _ _ _ _ hi (fun ad e => by have := hA ad e; omega), P.bel _ _ hg hB, fun ad e => by have := hA ad e; omega⟩)
/-- Blocks, or blocks around a peak; v: whether the table is valid. -/
def madeV (v : Bool) (ds ps : List Int) (rows : List (List Int)) (y f st n p : Int) (alt : Bool) : SerD × Int :=
  if v = false then (zeroS, 1)
  else if stB f st n = false ∨ ixB p n = false then (zeroS, 2)
  else if endsB ds ps y st n.toNat = true then (⟨f, st, if alt then placL (blkL ds ps rows y st n.toNat) p.toNat else blkL ds ps rows y st n.toNat⟩, 0)
  else (zeroS, 2)

set_option maxRecDepth 100000 in
set_option maxHeartbeats 4000000 in
theorem made_calls {A0 A1 A2 : Option Addr} {n0 c0 n1 c1 n2 c2 : Nat} {ds ps : List Int} {rows : List (List Int)} (v : Bool) (y f st n p : Int) (alt : Bool) (w : World) (h0 : Ints w A0 n0 c0 ds) (h1 : Ints w A1 n1 c1 ps) (h2 : Tab w A2 n2 c2 rows) (hv : v = true ↔ VOk ds ps rows) :
    Calls Try.prog 51 #[tabA A0 n0 c0 A1 n1 c1 A2 n2 c2, .int .i64 y, .int .i64 f, .int .i64 st, .int .i64 n, .int .i64 p, .bool alt] w (RetSer (madeV v ds ps rows y f st n p alt) w) := by
  obtain ⟨W0, hW0⟩ : ∃ W0, w.alloc (tabO A0 n0 c0 A1 n1 c1 A2 n2 c2) = W0 := ⟨_, rfl⟩
  have hb0 : Below w.heap.size w W0 := by rw [← hW0]; exact (Below.refl _ _).alloc (Nat.le_refl _) _
  have x0 : HBox W0 w.heap.size (.slice A0 n0 c0) (.slice A1 n1 c1) (.slice A2 n2 c2) := by rw [← hW0]; exact HBox.made _ _ _ _ _
  obtain ⟨W1, hW1⟩ : ∃ W1, W0.alloc (serO 0 0 none 0 0) = W1 := ⟨_, rfl⟩
  have hb1 : Below w.heap.size w W1 := by rw [← hW1]; exact hb0.alloc hb0.size _
  have x1 : HBox W1 w.heap.size (.slice A0 n0 c0) (.slice A1 n1 c1) (.slice A2 n2 c2) := by rw [← hW1]; exact x0.below ((Below.refl _ _).alloc (Nat.le_refl _) _) x0.lt
  have z1 : ZBox W1 W0.heap.size := by rw [← hW1]; exact ZBox.made W0
  have hWW : w.heap.size ≤ W0.heap.size := hb0.size
  have VC := Valid_calls W1 (h0.below hb1) (h1.below hb1) (h2.below hb1)
  have FC := Lib.hid (fun W => frame_calls f st n W)
  have IC := Lib.hid (fun W => index_calls p n W)
  have BC := Lib.hid (fun (N : Nat) W (B : Below w.heap.size w W) (ok : VOk ds ps rows) (s1 : 1 ≤ st ∧ st ≤ 86400) (s2 : 1 ≤ N ∧ N ≤ 10000) => blocks_calls y st N W (h0.below B) (h1.below B) (h2.below B) ok s1 s2)
  have PC := Lib.hid (fun (P N : Nat) W A c (h : Ints W A N c (blkL ds ps rows y st N)) (hp : P < N) (hn : N ≤ 10000) => placed_calls P W h hp hn)
  obtain ⟨V, hV⟩ : ∃ V, madeV v ds ps rows y f st n p alt = V := ⟨_, rfl⟩
  rw [hV]
  unfold madeV at hV
  have X1 := Lib.hid x1
  have Z1 := Lib.hid z1
  have B1 := Lib.hid hb1
  have VCH := Lib.hid VC
  obtain ⟨k0, k1, k2⟩ : W1.cell? ⟨w.heap.size, 0, none⟩ = some (.slice A0 n0 c0) ∧ W1.cell? ⟨w.heap.size, 1, none⟩ = some (.slice A1 n1 c1) ∧ W1.cell? ⟨w.heap.size, 2, none⟩ = some (.slice A2 n2 c2) := ⟨x1.c0, x1.c1, x1.c2⟩
  clear h0 h1 h2 hb0 x0 hb1 x1 z1 VC
  cases v
  · rw [if_pos rfl] at hV
    subst hV
    have HV := Lib.hid hv
    clear hv FC IC BC PC
    go_enter Try.func51, Try.ntmps51
    go_wp2_with fail
    refine (VCH.out).mono ?_
    rintro e w2 ⟨vb, rfl, b2, hvb⟩
    obtain rfl : vb = false := by
      cases vb
      · rfl
      · exact absurd (HV.out.2 (hvb.1 rfl)) (by simp)
    have hz := Z1.out.below b2 Z1.out.b.lt
    have F := fin0g hz hWW (below_then B1.out b2 B1.out.size) 1
    obtain ⟨z0, z1, z2, f0, f1, f2, zl⟩ := hz.cells
    clear b2 hz hvb k0 k1 k2
    go_wp2
    have q := F.out
    generalize ((w2.setCell ⟨W0.heap.size, 0, none⟩ (.int .i64 0)).setCell ⟨W0.heap.size, 1, none⟩ (.int .i64 0)).setCell ⟨W0.heap.size, 2, none⟩ (.slice none 0 0) = W3 at *
    obtain ⟨⟨⟨q0, q1, q2, -⟩, -, -, -, -⟩, q3⟩ := q
    exact bodyPost_ret (v := .tuple #[serA 0 0 none 0 0, .int .i64 1]) (by simp [results, Try.results51, go_sem, q0, q1, q2]) rfl q3
  · rw [if_neg (by simp)] at hV
    have OK := Lib.hid (hv.1 rfl)
    clear hv
    cases hst : stB f st n
    · rw [if_pos (.inl hst)] at hV
      subst hV
      have fc := fun W => FC.out W
      rw [hst] at fc
      have FC1 := Lib.hid fc
      clear fc FC IC BC PC hst
      go_enter Try.func51, Try.ntmps51
      go_wp2_with fail
      refine (VCH.out).mono ?_
      rintro e w2 ⟨vb, rfl, b2, hvb⟩
      obtain rfl : vb = true := hvb.2 OK.out
      have hz := Z1.out.below b2 Z1.out.b.lt
      have F := fin0g hz hWW (below_then B1.out b2 B1.out.size) 2
      obtain ⟨z0, z1, z2, f0, f1, f2, zl⟩ := hz.cells
      clear b2 hz hvb k0 k1 k2
      go_wp2_with fail
      refine (FC1.out _).mono ?_
      rintro e w3 ⟨rfl, rfl⟩
      go_wp2
      have q := F.out
      generalize ((w2.setCell ⟨W0.heap.size, 0, none⟩ (.int .i64 0)).setCell ⟨W0.heap.size, 1, none⟩ (.int .i64 0)).setCell ⟨W0.heap.size, 2, none⟩ (.slice none 0 0) = W3 at *
      obtain ⟨⟨⟨q0, q1, q2, -⟩, -, -, -, -⟩, q3⟩ := q
      exact bodyPost_ret (v := .tuple #[serA 0 0 none 0 0, .int .i64 2]) (by simp [results, Try.results51, go_sem, q0, q1, q2]) rfl q3
    · have fc := fun W => FC.out W
      rw [hst] at fc
      have FC1 := Lib.hid fc
      clear fc FC
      cases hix : ixB p n
      · rw [if_pos (.inr hix)] at hV
        subst hV
        have ic := fun W => IC.out W
        rw [hix] at ic
        have IC1 := Lib.hid ic
        clear ic IC BC PC hst hix
        go_enter Try.func51, Try.ntmps51
        go_wp2_with fail
        refine (VCH.out).mono ?_
        rintro e w2 ⟨vb, rfl, b2, hvb⟩
        obtain rfl : vb = true := hvb.2 OK.out
        have hz := Z1.out.below b2 Z1.out.b.lt
        have F := fin0g hz hWW (below_then B1.out b2 B1.out.size) 2
        obtain ⟨z0, z1, z2, f0, f1, f2, zl⟩ := hz.cells
        clear b2 hz hvb k0 k1 k2
        go_wp2_with fail
        refine (FC1.out _).mono ?_
        rintro e w3 ⟨rfl, rfl⟩
        go_wp2_with fail
        refine (IC1.out _).mono ?_
        rintro e w3 ⟨rfl, rfl⟩
        go_wp2
        have q := F.out
        generalize ((w2.setCell ⟨W0.heap.size, 0, none⟩ (.int .i64 0)).setCell ⟨W0.heap.size, 1, none⟩ (.int .i64 0)).setCell ⟨W0.heap.size, 2, none⟩ (.slice none 0 0) = W3 at *
        obtain ⟨⟨⟨q0, q1, q2, -⟩, -, -, -, -⟩, q3⟩ := q
        exact bodyPost_ret (v := .tuple #[serA 0 0 none 0 0, .int .i64 2]) (by simp [results, Try.results51, go_sem, q0, q1, q2]) rfl q3
      · have ic := fun W => IC.out W
        rw [hix] at ic
        have IC1 := Lib.hid ic
        rw [if_neg (by intro h; rcases h with h | h; rw [hst] at h; cases h; rw [hix] at h; cases h)] at hV
        have so := stB_iff.1 hst
        unfold ixB at hix
        rw [Bool.and_eq_true, decide_eq_true_eq, decide_eq_true_eq] at hix
        obtain ⟨N, hN⟩ := Int.eq_ofNat_of_zero_le (show 0 ≤ n by have := so.n0; omega)
        obtain ⟨P, hP⟩ := Int.eq_ofNat_of_zero_le hix.1
        subst hN hP
        rw [Int.toNat_natCast, Int.toNat_natCast] at hV
        have hPN : P < N := by omega
        have hN1 : N ≤ 10000 := by have := so.n1; omega
        have bc := fun W B => BC.out N W B OK.out ⟨so.s0, so.s1⟩ ⟨by have := so.n0; omega, hN1⟩
        have PC1 := Lib.hid (fun W A c (h : Ints W A N c (blkL ds ps rows y st N)) => PC.out P N W A c h hPN hN1)
        unfold blksV at bc
        clear ic IC BC PC hix so hst
        by_cases he : endsB ds ps y st N = true
        · rw [if_pos he] at hV bc
          have BC1 := Lib.hid bc
          clear bc he
          have LB : Hid ((blkL ds ps rows y st N).length = N) := Lib.hid (by unfold blkL; exact fl_length _ _)
          generalize blkL ds ps rows y st N = L at *
          cases alt
          · simp only [Bool.false_eq_true, if_false] at hV
            subst hV
            clear PC1
            go_enter Try.func51, Try.ntmps51
            go_wp2_with fail
            refine (VCH.out).mono ?_
            rintro e w2 ⟨vb, rfl, b2, hvb⟩
            obtain rfl : vb = true := hvb.2 OK.out
            have Z2 := Lib.hid (Z1.out.below b2 Z1.out.b.lt)
            have X2 := X1.out.below b2 X1.out.lt
            have B2 := Lib.hid (below_then B1.out b2 B1.out.size)
            obtain ⟨p0, p1, p2⟩ : w2.cell? ⟨w.heap.size, 0, none⟩ = some (.slice A0 n0 c0) ∧ w2.cell? ⟨w.heap.size, 1, none⟩ = some (.slice A1 n1 c1) ∧ w2.cell? ⟨w.heap.size, 2, none⟩ = some (.slice A2 n2 c2) := ⟨X2.c0, X2.c1, X2.c2⟩
            clear b2 hvb k0 k1 k2 X2
            go_wp2_with fail
            refine (FC1.out _).mono ?_
            rintro e w3 ⟨rfl, rfl⟩
            go_wp2_with fail
            refine (IC1.out _).mono ?_
            rintro e w3 ⟨rfl, rfl⟩
            go_wp2_with fail
            refine (BC1.out _ B2.out).mono ?_
            rintro e w3 ⟨A3, n3, c3, rfl, i3, b3, g3⟩
            have hz := Z2.out.below b3 Z2.out.b.lt
            have F := finSg hz hWW (below_then B2.out b3 B2.out.size) ⟨f, st, L⟩ 0 i3 (fun ad e => Nat.lt_of_lt_of_le Z2.out.b.lt (g3 ad e))
            obtain ⟨z0, z1, z2, f0, f1, f2, zl⟩ := hz.cells
            clear hz i3 b3 g3 p0 p1 p2
            dsimp only at F
            go_wp2
            have q := F.out
            generalize ((w3.setCell ⟨W0.heap.size, 0, none⟩ (.int .i64 f)).setCell ⟨W0.heap.size, 1, none⟩ (.int .i64 st)).setCell ⟨W0.heap.size, 2, none⟩ (.slice A3 n3 c3) = W3 at *
            obtain ⟨⟨⟨q0, q1, q2, -⟩, -, -, -, -⟩, q3⟩ := q
            exact bodyPost_ret (v := .tuple #[serA f st A3 n3 c3, .int .i64 0]) (by simp [results, Try.results51, go_sem, q0, q1, q2]) rfl q3
          · simp only [if_true] at hV
            subst hV
            generalize placL L P = K at *
            go_enter Try.func51, Try.ntmps51
            go_wp2_with fail
            refine (VCH.out).mono ?_
            rintro e w2 ⟨vb, rfl, b2, hvb⟩
            obtain rfl : vb = true := hvb.2 OK.out
            have Z2 := Lib.hid (Z1.out.below b2 Z1.out.b.lt)
            have X2 := X1.out.below b2 X1.out.lt
            have B2 := Lib.hid (below_then B1.out b2 B1.out.size)
            obtain ⟨p0, p1, p2⟩ : w2.cell? ⟨w.heap.size, 0, none⟩ = some (.slice A0 n0 c0) ∧ w2.cell? ⟨w.heap.size, 1, none⟩ = some (.slice A1 n1 c1) ∧ w2.cell? ⟨w.heap.size, 2, none⟩ = some (.slice A2 n2 c2) := ⟨X2.c0, X2.c1, X2.c2⟩
            clear b2 hvb k0 k1 k2 X2
            go_wp2_with fail
            refine (FC1.out _).mono ?_
            rintro e w3 ⟨rfl, rfl⟩
            go_wp2_with fail
            refine (IC1.out _).mono ?_
            rintro e w3 ⟨rfl, rfl⟩
            go_wp2_with fail
            refine (BC1.out _ B2.out).mono ?_
            rintro e w3 ⟨A3, n3, c3, rfl, i3, b3, g3⟩
            obtain rfl : n3 = N := by rw [← i3.len]; exact LB.out
            have Z3 := Lib.hid (Z2.out.below b3 Z2.out.b.lt)
            have B3 := Lib.hid (below_then B2.out b3 B2.out.size)
            have PX := Lib.hid (PC1.out w3 A3 c3 i3)
            clear p0 p1 p2 i3 b3 g3
            go_wp2_with fail
            refine (PX.out).mono ?_
            rintro e w4 ⟨A4, n4, c4, rfl, i4, b4, g4⟩
            have hz := Z3.out.below b4 Z3.out.b.lt
            have F := finSg hz hWW (below_then B3.out b4 B3.out.size) ⟨f, st, K⟩ 0 i4 (fun ad e => Nat.lt_of_lt_of_le Z3.out.b.lt (g4 ad e))
            obtain ⟨z0, z1, z2, f0, f1, f2, zl⟩ := hz.cells
            clear hz i4 b4 g4
            dsimp only at F
            go_wp2
            have q := F.out
            generalize ((w4.setCell ⟨W0.heap.size, 0, none⟩ (.int .i64 f)).setCell ⟨W0.heap.size, 1, none⟩ (.int .i64 st)).setCell ⟨W0.heap.size, 2, none⟩ (.slice A4 n4 c4) = W3 at *
            obtain ⟨⟨⟨q0, q1, q2, -⟩, -, -, -, -⟩, q3⟩ := q
            exact bodyPost_ret (v := .tuple #[serA f st A4 n4 c4, .int .i64 0]) (by simp [results, Try.results51, go_sem, q0, q1, q2]) rfl q3
        · rw [if_neg he] at hV bc
          subst hV
          have BC1 := Lib.hid bc
          clear bc he PC1
          go_enter Try.func51, Try.ntmps51
          go_wp2_with fail
          refine (VCH.out).mono ?_
          rintro e w2 ⟨vb, rfl, b2, hvb⟩
          obtain rfl : vb = true := hvb.2 OK.out
          have Z2 := Lib.hid (Z1.out.below b2 Z1.out.b.lt)
          have X2 := X1.out.below b2 X1.out.lt
          have B2 := Lib.hid (below_then B1.out b2 B1.out.size)
          obtain ⟨p0, p1, p2⟩ : w2.cell? ⟨w.heap.size, 0, none⟩ = some (.slice A0 n0 c0) ∧ w2.cell? ⟨w.heap.size, 1, none⟩ = some (.slice A1 n1 c1) ∧ w2.cell? ⟨w.heap.size, 2, none⟩ = some (.slice A2 n2 c2) := ⟨X2.c0, X2.c1, X2.c2⟩
          clear b2 hvb k0 k1 k2 X2
          go_wp2_with fail
          refine (FC1.out _).mono ?_
          rintro e w3 ⟨rfl, rfl⟩
          go_wp2_with fail
          refine (IC1.out _).mono ?_
          rintro e w3 ⟨rfl, rfl⟩
          go_wp2_with fail
          refine (BC1.out _ B2.out).mono ?_
          rintro e w3 ⟨A3, n3, c3, rfl, i3, b3, g3⟩
          have hz := Z2.out.below b3 Z2.out.b.lt
          have F := fin0g hz hWW (below_then B2.out b3 B2.out.size) 2
          obtain ⟨z0, z1, z2, f0, f1, f2, zl⟩ := hz.cells
          clear hz i3 b3 g3 p0 p1 p2
          go_wp2
          have q := F.out
          generalize ((w3.setCell ⟨W0.heap.size, 0, none⟩ (.int .i64 0)).setCell ⟨W0.heap.size, 1, none⟩ (.int .i64 0)).setCell ⟨W0.heap.size, 2, none⟩ (.slice none 0 0) = W3 at *
          obtain ⟨⟨⟨q0, q1, q2, -⟩, -, -, -, -⟩, q3⟩ := q
          exact bodyPost_ret (v := .tuple #[serA 0 0 none 0 0, .int .i64 2]) (by simp [results, Try.results51, go_sem, q0, q1, q2]) rfl q3

theorem made_box {A0 A1 A2 : Option Addr} {n0 c0 n1 c1 n2 c2 : Nat} (w : World) : ∃ W0 W1, w.alloc (tabO A0 n0 c0 A1 n1 c1 A2 n2 c2) = W0 ∧ W0.alloc (serO 0 0 none 0 0) = W1 ∧ Below w.heap.size w W1 ∧ HBox W1 w.heap.size (.slice A0 n0 c0) (.slice A1 n1 c1) (.slice A2 n2 c2) ∧ ZBox W1 W0.heap.size ∧ w.heap.size ≤ W0.heap.size := by
  have hb0 : Below w.heap.size w (w.alloc (tabO A0 n0 c0 A1 n1 c1 A2 n2 c2)) := (Below.refl _ _).alloc (Nat.le_refl _) _
  have x0 : HBox (w.alloc (tabO A0 n0 c0 A1 n1 c1 A2 n2 c2)) w.heap.size (.slice A0 n0 c0) (.slice A1 n1 c1) (.slice A2 n2 c2) := HBox.made _ _ _ _ _
  exact ⟨_, _, rfl, rfl, hb0.alloc hb0.size _, x0.below ((Below.refl _ _).alloc (Nat.le_refl _) _) x0.lt, ZBox.made _, hb0.size⟩
set_option maxRecDepth 100000 in
set_option maxHeartbeats 2000000 in
theorem Alternating_calls {A0 A1 A2 : Option Addr} {n0 c0 n1 c1 n2 c2 : Nat} {ds ps : List Int} {rows : List (List Int)} (v : Bool) (y f st n p : Int) (w : World) (h0 : Ints w A0 n0 c0 ds) (h1 : Ints w A1 n1 c1 ps) (h2 : Tab w A2 n2 c2 rows) (hv : v = true ↔ VOk ds ps rows) :
    Calls Try.prog 19 #[tabA A0 n0 c0 A1 n1 c1 A2 n2 c2, .int .i64 y, .int .i64 f, .int .i64 st, .int .i64 n, .int .i64 p] w (RetSer (madeV v ds ps rows y f st n p true) w) := by
  obtain ⟨W0, W1, hW0, hW1, hb1, x1, z1, hWW⟩ := made_box (A0 := A0) (n0 := n0) (c0 := c0) (A1 := A1) (n1 := n1) (c1 := c1) (A2 := A2) (n2 := n2) (c2 := c2) w
  have MC := Lib.hid (made_calls v y f st n p true W1 (h0.below hb1) (h1.below hb1) (h2.below hb1) hv)
  generalize madeV v ds ps rows y f st n p true = V at *
  obtain ⟨⟨f1, s1, L⟩, x⟩ := V
  have Z1 := Lib.hid z1
  have B1 := Lib.hid hb1
  obtain ⟨k0, k1, k2⟩ : W1.cell? ⟨w.heap.size, 0, none⟩ = some (.slice A0 n0 c0) ∧ W1.cell? ⟨w.heap.size, 1, none⟩ = some (.slice A1 n1 c1) ∧ W1.cell? ⟨w.heap.size, 2, none⟩ = some (.slice A2 n2 c2) := ⟨x1.c0, x1.c1, x1.c2⟩
  clear h0 h1 h2 hb1 x1 z1 hv
  go_enter Try.func19, Try.ntmps19
  go_wp2_with fail
  refine (MC.out).mono ?_
  rintro e w3 ⟨A3, n3, c3, rfl, i3, b3, g3⟩
  have hz := Z1.out.below b3 Z1.out.b.lt
  have F := finSg hz hWW (below_then B1.out b3 B1.out.size) ⟨f1, s1, L⟩ x i3 (fun ad e => Nat.lt_of_lt_of_le Z1.out.b.lt (g3 ad e))
  obtain ⟨z0, z1, z2, f0, f1', f2, zl⟩ := hz.cells
  clear hz i3 b3 g3 k0 k1 k2
  dsimp only at F
  go_wp2
  have q := F.out
  generalize ((w3.setCell ⟨W0.heap.size, 0, none⟩ (.int .i64 f1)).setCell ⟨W0.heap.size, 1, none⟩ (.int .i64 s1)).setCell ⟨W0.heap.size, 2, none⟩ (.slice A3 n3 c3) = W3 at *
  obtain ⟨⟨⟨q0, q1, q2, -⟩, -, -, -, -⟩, q3⟩ := q
  exact bodyPost_ret (v := .tuple #[serA f1 s1 A3 n3 c3, .int .i64 x]) (by simp [results, Try.results19, go_sem, q0, q1, q2]) rfl q3
set_option maxRecDepth 100000 in
set_option maxHeartbeats 2000000 in
theorem Blocks_calls {A0 A1 A2 : Option Addr} {n0 c0 n1 c1 n2 c2 : Nat} {ds ps : List Int} {rows : List (List Int)} (v : Bool) (y f st n : Int) (w : World) (h0 : Ints w A0 n0 c0 ds) (h1 : Ints w A1 n1 c1 ps) (h2 : Tab w A2 n2 c2 rows) (hv : v = true ↔ VOk ds ps rows) :
    Calls Try.prog 17 #[tabA A0 n0 c0 A1 n1 c1 A2 n2 c2, .int .i64 y, .int .i64 f, .int .i64 st, .int .i64 n] w (RetSer (madeV v ds ps rows y f st n 0 false) w) := by
  obtain ⟨W0, W1, hW0, hW1, hb1, x1, z1, hWW⟩ := made_box (A0 := A0) (n0 := n0) (c0 := c0) (A1 := A1) (n1 := n1) (c1 := c1) (A2 := A2) (n2 := n2) (c2 := c2) w
  have MC := Lib.hid (made_calls v y f st n 0 false W1 (h0.below hb1) (h1.below hb1) (h2.below hb1) hv)
  generalize madeV v ds ps rows y f st n 0 false = V at *
  obtain ⟨⟨f1, s1, L⟩, x⟩ := V
  have Z1 := Lib.hid z1
  have B1 := Lib.hid hb1
  obtain ⟨k0, k1, k2⟩ : W1.cell? ⟨w.heap.size, 0, none⟩ = some (.slice A0 n0 c0) ∧ W1.cell? ⟨w.heap.size, 1, none⟩ = some (.slice A1 n1 c1) ∧ W1.cell? ⟨w.heap.size, 2, none⟩ = some (.slice A2 n2 c2) := ⟨x1.c0, x1.c1, x1.c2⟩
  clear h0 h1 h2 hb1 x1 z1 hv
  go_enter Try.func17, Try.ntmps17
  go_wp2_with fail
  refine (MC.out).mono ?_
  rintro e w3 ⟨A3, n3, c3, rfl, i3, b3, g3⟩
  have hz := Z1.out.below b3 Z1.out.b.lt
  have F := finSg hz hWW (below_then B1.out b3 B1.out.size) ⟨f1, s1, L⟩ x i3 (fun ad e => Nat.lt_of_lt_of_le Z1.out.b.lt (g3 ad e))
  obtain ⟨z0, z1, z2, f0, f1', f2, zl⟩ := hz.cells
  clear hz i3 b3 g3 k0 k1 k2
  dsimp only at F
  go_wp2
  have q := F.out
  generalize ((w3.setCell ⟨W0.heap.size, 0, none⟩ (.int .i64 f1)).setCell ⟨W0.heap.size, 1, none⟩ (.int .i64 s1)).setCell ⟨W0.heap.size, 2, none⟩ (.slice A3 n3 c3) = W3 at *
  obtain ⟨⟨⟨q0, q1, q2, -⟩, -, -, -, -⟩, q3⟩ := q
  exact bodyPost_ret (v := .tuple #[serA f1 s1 A3 n3 c3, .int .i64 x]) (by simp [results, Try.results17, go_sem, q0, q1, q2]) rfl q3
end Go.Proofs.Ytfhikdgdckfalaa

/- The shares of a total by weights, as a plain function; their sum. No program in sight. -/
namespace Go.Proofs.Ytfhikdgdckfalaa
set_option linter.unusedVariables false

def shF (t : Int) (ws : List Int) (k : Nat) : Int := t * sumF (el ws) (k + 1) / sumL ws - t * sumF (el ws) k / sumL ws
def shL (t : Int) (ws : List Int) : List Int := fl ws.length (shF t ws)
def ShareE (t : Int) (ws : List Int) : Int :=
  if 10000 < ws.length then 4 else if ¬ (0 ≤ t ∧ t ≤ 1125899906842624) then 2 else if inB 1125899906842624 ws = false then 2 else if 1152921504606846976 < sumL ws then 5 else if sumL ws = 0 then 16 else 0
/-- The list, and the error number. -/
def ShareV (t : Int) (ws : List Int) : List Int × Int := if ShareE t ws = 0 then (shL t ws, 0) else ([], ShareE t ws)
/-- Right arguments. -/
structure ShareOk (t : Int) (ws : List Int) : Prop where
  len : ws.length ≤ 10000
  t0 : 0 ≤ t
  t1 : t ≤ 1125899906842624
  ok : inB 1125899906842624 ws = true
  s0 : 0 < sumL ws
  s1 : sumL ws ≤ 1152921504606846976
theorem sum_nonneg {ws : List Int} {m : Int} (h : inB m ws = true) : 0 ≤ sumL ws := sumF_nonneg fun k hk => (inB_el h hk).1
theorem part_bd {ws : List Int} {m : Int} (h : inB m ws = true) {k : Nat} (hk : k ≤ ws.length) : 0 ≤ sumF (el ws) k ∧ sumF (el ws) k ≤ sumL ws := by
  refine ⟨sumF_nonneg fun j hj => (inB_el h (by omega)).1, ?_⟩
  unfold sumL
  generalize ws.length = n at *
  have : ∀ j, 0 ≤ el ws j := fun j => by
    by_cases hj : j < ws.length
    · exact (inB_el h hj).1
    · unfold el; rw [List.getD_eq_getElem?_getD, List.getElem?_eq_none (by omega)]; exact Int.le_refl _
  exact sumF_mono this hk
theorem shareE_ok {t : Int} {ws : List Int} : ShareE t ws = 0 ↔ ShareOk t ws := by
  unfold ShareE
  constructor
  · intro h
    split at h
    · simp at h
    · split at h
      · simp at h
      · split at h
        · simp at h
        · split at h
          · simp at h
          · split at h
            · simp at h
            · rename_i a b c d e
              have hc : inB 1125899906842624 ws = true := by simpa using c
              have := sum_nonneg hc
              exact ⟨by omega, by omega, by omega, hc, by omega, by omega⟩
  · intro h
    rw [if_neg (by have := h.len; omega), if_neg (not_not_intro ⟨h.t0, h.t1⟩), if_neg (by rw [h.ok]; decide), if_neg (by have := h.s1; omega), if_neg (by have := h.s0; omega)]
theorem shareV_ok {t : Int} {ws : List Int} (h : ShareOk t ws) : ShareV t ws = (shL t ws, 0) := by unfold ShareV; rw [if_pos (shareE_ok.2 h)]
theorem shareV_no {t : Int} {ws : List Int} (h : ¬ ShareOk t ws) : ShareV t ws = ([], ShareE t ws) := by unfold ShareV; rw [if_neg (fun e => h (shareE_ok.1 e))]
theorem shL_length (t : Int) (ws : List Int) : (shL t ws).length = ws.length := fl_length _ _

section
variable {t : Int} {ws : List Int} (h : ShareOk t ws)
include h
theorem qk_bd {k : Nat} (hk : k ≤ ws.length) : 0 ≤ t * sumF (el ws) k / sumL ws ∧ t * sumF (el ws) k / sumL ws ≤ t := by
  have hp := part_bd h.ok hk
  refine ⟨Int.ediv_nonneg (Int.mul_nonneg h.t0 hp.1) (by have := h.s0; omega), ?_⟩
  have h1 : t * sumF (el ws) k ≤ t * sumL ws := Int.mul_le_mul_of_nonneg_left hp.2 h.t0
  have h2 := Int.ediv_le_ediv h.s0 h1
  rwa [Int.mul_ediv_cancel _ (by have := h.s0; omega)] at h2
theorem qk_mono {k : Nat} (hk : k < ws.length) : t * sumF (el ws) k / sumL ws ≤ t * sumF (el ws) (k + 1) / sumL ws := by
  apply Int.ediv_le_ediv h.s0
  apply Int.mul_le_mul_of_nonneg_left _ h.t0
  have := (inB_el h.ok hk).1
  rw [sumF]; omega
theorem shF_bd {k : Nat} (hk : k < ws.length) : 0 ≤ shF t ws k ∧ shF t ws k ≤ t := by
  have h1 := qk_bd h (show k + 1 ≤ ws.length by omega)
  have h2 := qk_bd h (show k ≤ ws.length by omega)
  have h3 := qk_mono h hk
  unfold shF; omega
omit h in
theorem shF_sum (k : Nat) : sumF (shF t ws) k = t * sumF (el ws) k / sumL ws := by
  induction k with
  | zero => simp [sumF]
  | succ k ih => rw [sumF, ih]; unfold shF; omega
theorem sum_share : sumL (shL t ws) = t := by
  unfold sumL
  rw [shL_length, show sumF (el (shL t ws)) ws.length = sumF (shF t ws) ws.length from sumF_congr (fun k hk => el_fl _ hk), shF_sum]
  exact Int.mul_ediv_cancel _ (Int.ne_of_gt h.s0)
end

/-- The quotient in 128 bits. -/
theorem quo128 (T F S : Nat) : (T * F / 18446744073709551616 * 18446744073709551616 + T * F % 18446744073709551616) / S = T * F / S := by
  congr 1; omega
theorem quo128_hi {T F S : Nat} (hT : T ≤ 1125899906842624) (hF : F ≤ S) (hS : 0 < S) : T * F / 18446744073709551616 < S := by
  rw [Nat.div_lt_iff_lt_mul (by omega)]
  have h1 : T * F ≤ 1125899906842624 * S := Nat.mul_le_mul hT hF
  omega
end Go.Proofs.Ytfhikdgdckfalaa
