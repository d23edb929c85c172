/- Blocks of the reference. -/
import Derived.Test.YtfhikdgdckfalaaPartR
import Derived.Test.YtfhikdgdckfalaaMB14
namespace Go.Proofs.Ytfhikdgdckfalaa
open Go.RowKit
set_option linter.unusedVariables false

theorem giv_ok {v : Bool} {ds ps : List Int} {y f st n : Int} (h : givV v ds ps y f st n = 0) : v = true ∧ stB f st n = true ∧ endsB ds ps y st n.toNat = true := by
  unfold givV at h
  cases v
  · rw [if_pos rfl] at h; cases h
  · rw [if_neg (by simp)] at h
    cases hs : stB f st n
    · rw [if_pos (.inl hs)] at h; cases h
    · cases he : endsB ds ps y st n.toNat
      · rw [if_pos (.inr he)] at h; cases h
      · exact ⟨rfl, rfl, rfl⟩
/-- What Given refuses, made refuses with the same number; the rest depends on the peak alone. -/
theorem made_giv (v : Bool) (ds ps : List Int) (rows : List (List Int)) (y f st n p : Int) (alt : Bool) : madeV v ds ps rows y f st n p alt = if givV v ds ps y f st n = 0 then (if ixB p n = true then (⟨f, st, if alt then placL (blkL ds ps rows y st n.toNat) p.toNat else blkL ds ps rows y st n.toNat⟩, 0) else (zeroS, 2)) else (zeroS, givV v ds ps y f st n) := by
  unfold madeV givV
  cases v
  · simp
  · cases hs : stB f st n <;> cases he : endsB ds ps y st n.toNat <;> cases hi : ixB p n <;> simp

set_option maxRecDepth 100000 in
set_option maxHeartbeats 4000000 in
theorem Blocks_ref {A0 A1 A2 : Option Addr} {n0 c0 n1 c1 n2 c2 : Nat} {ds ps : List Int} {rows : List (List Int)} (v : Bool) (y f st n : Int) (w : World) (h0 : Ints w A0 n0 c0 ds) (h1 : Ints w A1 n1 c1 ps) (h2 : Tab w A2 n2 c2 rows) (hv : v = true ↔ VOk ds ps rows) :
    Calls Try.prog 18 #[tabA A0 n0 c0 A1 n1 c1 A2 n2 c2, .int .i64 y, .int .i64 f, .int .i64 st, .int .i64 n] w (RetSer (madeV v ds ps rows y f st n 0 false) w) := by
  obtain ⟨W0, W1, hW0, hW1, hb1, x1, z1, hWW⟩ := made_box (A0 := A0) (n0 := n0) (c0 := c0) (A1 := A1) (n1 := n1) (c1 := c1) (A2 := A2) (n2 := n2) (c2 := c2) w
  have GC := Lib.hid (Given_calls v y f st n W1 (h0.below hb1) (h1.below hb1) (h2.below hb1) hv)
  have PC := Lib.hid (fun (N : Nat) W (B : Below w.heap.size w W) (ok : VOk ds ps rows) (s1 : 1 ≤ st ∧ st ≤ 86400) (s2 : 1 ≤ N ∧ N ≤ 10000) (he : endsB ds ps y st N = true) => Parts_calls y st N W (h0.below B) (h1.below B) (h2.below B) ok s1 s2 he)
  obtain ⟨V, hV⟩ : ∃ V, madeV v ds ps rows y f st n 0 false = V := ⟨_, rfl⟩
  rw [hV]
  rw [made_giv] at hV
  have OKG := Lib.hid (fun h => giv_ok (v := v) (ds := ds) (ps := ps) (y := y) (f := f) (st := st) (n := n) h)
  generalize givV v ds ps y f st n = g at *
  have X1 := Lib.hid x1
  have Z1 := Lib.hid z1
  have B1 := Lib.hid hb1
  have HV := Lib.hid hv
  obtain ⟨k0, k1, k2⟩ : W1.cell? ⟨w.heap.size, 0, none⟩ = some (.slice A0 n0 c0) ∧ W1.cell? ⟨w.heap.size, 1, none⟩ = some (.slice A1 n1 c1) ∧ W1.cell? ⟨w.heap.size, 2, none⟩ = some (.slice A2 n2 c2) := ⟨x1.c0, x1.c1, x1.c2⟩
  clear h0 h1 h2 hb1 x1 z1 hv
  by_cases hg : g = 0
  · rw [if_pos hg] at hV
    obtain ⟨rfl, hst, he⟩ := OKG.out hg
    have so := stB_iff.1 hst
    obtain ⟨N, rfl⟩ := Int.eq_ofNat_of_zero_le (show 0 ≤ n by have := so.n0; omega)
    have hN := so.n0
    have hN' := so.n1
    rw [if_pos (by unfold ixB; rw [decide_eq_true (by omega), decide_eq_true (by omega)]; rfl)] at hV
    simp only [Int.toNat_natCast] at hV he
    subst hV
    subst hg
    have P1 := Lib.hid (fun W B => PC.out N W B (HV.out.1 rfl) ⟨so.s0, so.s1⟩ ⟨by omega, by omega⟩ he)
    clear PC OKG HV hst he so
    go_enter Try.func18, Try.ntmps18
    go_wp2_with fail
    refine (GC.out).mono ?_
    rintro e w2 ⟨rfl, b2⟩
    have B2 := Lib.hid (below_then B1.out b2 B1.out.size)
    have X2 := Lib.hid (X1.out.below b2 X1.out.lt)
    have Z2 := Lib.hid (Z1.out.below b2 Z1.out.b.lt)
    obtain ⟨m0, m1, m2⟩ : w2.cell? ⟨w.heap.size, 0, none⟩ = some (.slice A0 n0 c0) ∧ w2.cell? ⟨w.heap.size, 1, none⟩ = some (.slice A1 n1 c1) ∧ w2.cell? ⟨w.heap.size, 2, none⟩ = some (.slice A2 n2 c2) := ⟨X2.out.c0, X2.out.c1, X2.out.c2⟩
    clear b2 k0 k1 k2
    go_wp2_with fail
    refine (P1.out _ B2.out).mono ?_
    rintro e w3 ⟨A3, n3, c3, rfl, i3, b3, g3⟩
    have hz := Z2.out.below b3 Z2.out.b.lt
    have F := finSg hz hWW (below_then B2.out b3 B2.out.size) ⟨f, st, blkL ds ps rows y st N⟩ 0 i3 (fun ad e => Nat.lt_of_lt_of_le Z2.out.b.lt (g3 ad e))
    obtain ⟨z0, z1, z2, f0, f1', f2, zl⟩ := hz.cells
    clear hz i3 b3 g3 m0 m1 m2
    dsimp only at F
    go_wp2
    have q := F.out
    generalize ((w3.setCell ⟨W0.heap.size, 0, none⟩ (.int .i64 f)).setCell ⟨W0.heap.size, 1, none⟩ (.int .i64 st)).setCell ⟨W0.heap.size, 2, none⟩ (.slice A3 n3 c3) = W3 at *
    obtain ⟨⟨⟨q0, q1, q2, -⟩, -, -, -, -⟩, q3⟩ := q
    exact bodyPost_ret (v := .tuple #[serA f st A3 n3 c3, .int .i64 0]) (by simp [results, Try.results18, go_sem, q0, q1, q2]) rfl q3
  · rw [if_neg hg] at hV
    subst hV
    have g1 : ((g : Int) != 0) = true := by simp; exact hg
    have g2 : ((g : Int) == 0) = false := by simp; exact hg
    clear PC OKG HV
    go_enter Try.func18, Try.ntmps18
    go_wp2_with fail
    refine (GC.out).mono ?_
    rintro e w2 ⟨rfl, b2⟩
    have hz := Z1.out.below b2 Z1.out.b.lt
    have F := fin0g hz hWW (below_then B1.out b2 B1.out.size) g
    obtain ⟨z0, z1, z2, f0, f1, f2, zl⟩ := hz.cells
    clear b2 hz k0 k1 k2
    go_wp2
    have q := F.out
    generalize ((w2.setCell ⟨W0.heap.size, 0, none⟩ (.int .i64 0)).setCell ⟨W0.heap.size, 1, none⟩ (.int .i64 0)).setCell ⟨W0.heap.size, 2, none⟩ (.slice none 0 0) = W3 at *
    obtain ⟨⟨⟨q0, q1, q2, -⟩, -, -, -, -⟩, q3⟩ := q
    exact bodyPost_ret (v := .tuple #[serA 0 0 none 0 0, .int .i64 g]) (by simp [results, Try.results18, go_sem, q0, q1, q2]) rfl q3
end Go.Proofs.Ytfhikdgdckfalaa
