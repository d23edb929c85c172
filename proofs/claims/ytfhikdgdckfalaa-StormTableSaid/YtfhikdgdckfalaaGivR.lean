/- Given of the reference: the error number of a table, a period and a frame. -/
import Derived.Test.YtfhikdgdckfalaaValR
import Derived.Test.YtfhikdgdckfalaaDepR
import Derived.Test.YtfhikdgdckfalaaMB14
namespace Go.Proofs.Ytfhikdgdckfalaa
open Go.RowKit
set_option linter.unusedVariables false

theorem Within_asc {A : Option Addr} {n c : Nat} {l : List Int} (x : Int) (w : World) (h : Ints w A n c l) (ha : Asc l) (hn : 0 < l.length) :
    Calls Try.prog 58 #[.slice A n c, .int .i64 x] w fun e w' => e = .returned (.bool (plcV l x).2) ∧ w = w' := by
  have hl := h.len
  refine (Within_calls x w h (by omega)).mono fun e w' hh => ⟨?_, hh.2⟩
  rw [hh.1]
  congr 2
  have := plc_in (x := x) ha hn
  rw [Bool.eq_iff_iff, Bool.and_eq_true, decide_eq_true_eq, decide_eq_true_eq, this, hl]
def givV (v : Bool) (ds ps : List Int) (y f st n : Int) : Int :=
  if v = false then 1 else if stB f st n = false ∨ endsB ds ps y st n.toNat = false then 2 else 0

set_option maxRecDepth 100000 in
set_option maxHeartbeats 4000000 in
theorem Given_calls {A0 A1 A2 : Option Addr} {n0 c0 n1 c1 n2 c2 : Nat} {ds ps : List Int} {rows : List (List Int)} (v : Bool) (y f st n : Int) (w : World) (h0 : Ints w A0 n0 c0 ds) (h1 : Ints w A1 n1 c1 ps) (h2 : Tab w A2 n2 c2 rows) (hv : v = true ↔ VOk ds ps rows) :
    Calls Try.prog 28 #[tabA A0 n0 c0 A1 n1 c1 A2 n2 c2, .int .i64 y, .int .i64 f, .int .i64 st, .int .i64 n] w fun e w' => e = .returned (.int .i64 (givV v ds ps y f st n)) ∧ Below w.heap.size w w' := by
  obtain ⟨W0, hW0⟩ : ∃ W0, w.alloc (tabO A0 n0 c0 A1 n1 c1 A2 n2 c2) = W0 := ⟨_, rfl⟩
  have hb0 : Below w.heap.size w W0 := by rw [← hW0]; exact (Below.refl _ _).alloc (Nat.le_refl _) _
  have X0 := Lib.hid (show HBox W0 w.heap.size (.slice A0 n0 c0) (.slice A1 n1 c1) (.slice A2 n2 c2) by rw [← hW0]; exact HBox.made _ _ _ _ _)
  obtain ⟨k0, k1, k2, kl⟩ : W0.cell? ⟨w.heap.size, 0, none⟩ = some (.slice A0 n0 c0) ∧ W0.cell? ⟨w.heap.size, 1, none⟩ = some (.slice A1 n1 c1) ∧ W0.cell? ⟨w.heap.size, 2, none⟩ = some (.slice A2 n2 c2) ∧ w.heap.size < W0.heap.size := ⟨X0.out.c0, X0.out.c1, X0.out.c2, X0.out.lt⟩
  have VC := Lib.hid (ValidR_calls W0 (h0.below hb0) (h1.below hb0) (h2.below hb0))
  have FR := Lib.hid (fun W => Frame_ref f st n W)
  have B0 := Lib.hid hb0
  have HV := Lib.hid hv
  unfold givV
  cases v
  · rw [if_pos rfl]
    clear h0 h1 h2 hb0 hv
    go_enter Try.func28, Try.ntmps28
    go_wp2_with fail
    refine (VC.out).mono ?_
    rintro e w1 ⟨b, rfl, b1, hb⟩
    obtain rfl : b = false := by
      cases b
      · rfl
      · have := HV.out.2 (hb.1 rfl); cases this
    have B1 := Lib.hid (below_then B0.out b1 B0.out.size)
    go_wp2
    go_ret
    exact ⟨rfl, B1.out⟩
  have ok := hv.1 rfl
  have da := ok.tok.da
  have pa := ok.tok.pa
  have dl := ok.1.2.2.1
  have pl := ok.2.1.2.2.1
  have WP := Lib.hid (fun W (B : Below w.heap.size w W) => Within_asc y W (h1.below B) pa (by omega))
  have WS := Lib.hid (fun W (B : Below w.heap.size w W) => Within_asc st W (h0.below B) da (by omega))
  have WN := Lib.hid (fun W (B : Below w.heap.size w W) => Within_asc (st * n) W (h0.below B) da (by omega))
  have HV2 := Lib.hid (fun (b : Bool) (hb : b = true ↔ VOk ds ps rows) => hb.2 ok)
  clear h0 h1 h2 hb0 hv ok da pa dl pl
  rw [if_neg (by simp)]
  cases hst : stB f st n
  · rw [hst] at FR
    rw [if_pos (.inl rfl)]
    clear WP WS WN hst
    go_enter Try.func28, Try.ntmps28
    go_wp2_with fail
    refine (VC.out).mono ?_
    rintro e w1 ⟨b, rfl, b1, hb⟩
    obtain rfl := HV2.out b hb
    have B1 := Lib.hid (below_then B0.out b1 B0.out.size)
    have X1 := Lib.hid (X0.out.below b1 X0.out.lt)
    obtain ⟨m0, m1, m2⟩ : w1.cell? ⟨w.heap.size, 0, none⟩ = some (.slice A0 n0 c0) ∧ w1.cell? ⟨w.heap.size, 1, none⟩ = some (.slice A1 n1 c1) ∧ w1.cell? ⟨w.heap.size, 2, none⟩ = some (.slice A2 n2 c2) := ⟨X1.out.c0, X1.out.c1, X1.out.c2⟩
    clear b1 hb k0 k1 k2
    go_wp2_with fail
    refine (FR.out _).mono ?_
    rintro e w2 ⟨rfl, rfl⟩
    go_wp2
    go_ret
    exact ⟨rfl, B1.out⟩
  have so := stB_iff.1 hst
  have hn0 := so.n0
  have hs0 := so.s0
  have en : st * n = ((n.toNat : Nat) : Int) * st := by rw [Int.toNat_of_nonneg (by omega), Int.mul_comm]
  have rw1 : IntKind.i64.wrap (st * n) = st * n := by
    have a1 : 0 ≤ st * n := Int.mul_nonneg (by omega) (by omega)
    have a2 : st * n ≤ 86400 * 10000 := Int.mul_le_mul so.s1 so.n1 (by omega) (by omega)
    exact IntWalk.i64_in _ (by omega)
  have hcond : (true = false ∨ endsB ds ps y st n.toNat = false) ↔ ((plcV ds st).2 && (plcV ps y).2 && (plcV ds (st * n)).2) = false := by
    unfold endsB inT
    rw [← en]
    generalize (plcV ds st).2 = a
    generalize (plcV ps y).2 = b
    generalize (plcV ds (st * n)).2 = c
    cases a <;> cases b <;> cases c <;> simp
  rw [hst] at FR
  simp only [hcond]
  generalize hP : st * n = P at *
  generalize (plcV ds st).2 = a at *
  generalize (plcV ps y).2 = b at *
  generalize (plcV ds P).2 = c at *
  clear hcond en so hst
  cases b
  · rw [if_pos (by cases a <;> cases c <;> rfl)]
    go_enter Try.func28, Try.ntmps28
    go_wp2_with fail
    refine (VC.out).mono ?_
    rintro e w1 ⟨b', rfl, b1, hb⟩
    obtain rfl := HV2.out b' hb
    have B1 := Lib.hid (below_then B0.out b1 B0.out.size)
    have X1 := Lib.hid (X0.out.below b1 X0.out.lt)
    obtain ⟨m0, m1, m2⟩ : w1.cell? ⟨w.heap.size, 0, none⟩ = some (.slice A0 n0 c0) ∧ w1.cell? ⟨w.heap.size, 1, none⟩ = some (.slice A1 n1 c1) ∧ w1.cell? ⟨w.heap.size, 2, none⟩ = some (.slice A2 n2 c2) := ⟨X1.out.c0, X1.out.c1, X1.out.c2⟩
    clear b1 hb k0 k1 k2
    go_wp2_with fail
    refine (FR.out _).mono ?_
    rintro e w2 ⟨rfl, rfl⟩
    go_wp2_with fail
    refine (WP.out _ B1.out).mono ?_
    rintro e w2 ⟨rfl, rfl⟩
    go_wp2
    go_ret
    exact ⟨rfl, B1.out⟩
  cases a
  · rw [if_pos (by cases c <;> rfl)]
    go_enter Try.func28, Try.ntmps28
    go_wp2_with fail
    refine (VC.out).mono ?_
    rintro e w1 ⟨b', rfl, b1, hb⟩
    obtain rfl := HV2.out b' hb
    have B1 := Lib.hid (below_then B0.out b1 B0.out.size)
    have X1 := Lib.hid (X0.out.below b1 X0.out.lt)
    obtain ⟨m0, m1, m2⟩ : w1.cell? ⟨w.heap.size, 0, none⟩ = some (.slice A0 n0 c0) ∧ w1.cell? ⟨w.heap.size, 1, none⟩ = some (.slice A1 n1 c1) ∧ w1.cell? ⟨w.heap.size, 2, none⟩ = some (.slice A2 n2 c2) := ⟨X1.out.c0, X1.out.c1, X1.out.c2⟩
    clear b1 hb k0 k1 k2
    go_wp2_with fail
    refine (FR.out _).mono ?_
    rintro e w2 ⟨rfl, rfl⟩
    go_wp2_with fail
    refine (WP.out _ B1.out).mono ?_
    rintro e w2 ⟨rfl, rfl⟩
    go_wp2_with fail
    refine (WS.out _ B1.out).mono ?_
    rintro e w2 ⟨rfl, rfl⟩
    go_wp2
    go_ret
    exact ⟨rfl, B1.out⟩
  cases c
  · rw [if_pos (show (true && true && false) = false from rfl)]
    go_enter Try.func28, Try.ntmps28
    go_wp2_with fail
    refine (VC.out).mono ?_
    rintro e w1 ⟨b', rfl, b1, hb⟩
    obtain rfl := HV2.out b' hb
    have B1 := Lib.hid (below_then B0.out b1 B0.out.size)
    have X1 := Lib.hid (X0.out.below b1 X0.out.lt)
    obtain ⟨m0, m1, m2⟩ : w1.cell? ⟨w.heap.size, 0, none⟩ = some (.slice A0 n0 c0) ∧ w1.cell? ⟨w.heap.size, 1, none⟩ = some (.slice A1 n1 c1) ∧ w1.cell? ⟨w.heap.size, 2, none⟩ = some (.slice A2 n2 c2) := ⟨X1.out.c0, X1.out.c1, X1.out.c2⟩
    clear b1 hb k0 k1 k2
    go_wp2_with fail
    refine (FR.out _).mono ?_
    rintro e w2 ⟨rfl, rfl⟩
    go_wp2_with fail
    refine (WP.out _ B1.out).mono ?_
    rintro e w2 ⟨rfl, rfl⟩
    go_wp2_with fail
    refine (WS.out _ B1.out).mono ?_
    rintro e w2 ⟨rfl, rfl⟩
    go_wp2_with fail
    refine (WN.out _ B1.out).mono ?_
    rintro e w2 ⟨rfl, rfl⟩
    go_wp2
    go_ret
    exact ⟨rfl, B1.out⟩
  · rw [if_neg (by simp)]
    go_enter Try.func28, Try.ntmps28
    go_wp2_with fail
    refine (VC.out).mono ?_
    rintro e w1 ⟨b', rfl, b1, hb⟩
    obtain rfl := HV2.out b' hb
    have B1 := Lib.hid (below_then B0.out b1 B0.out.size)
    have X1 := Lib.hid (X0.out.below b1 X0.out.lt)
    obtain ⟨m0, m1, m2⟩ : w1.cell? ⟨w.heap.size, 0, none⟩ = some (.slice A0 n0 c0) ∧ w1.cell? ⟨w.heap.size, 1, none⟩ = some (.slice A1 n1 c1) ∧ w1.cell? ⟨w.heap.size, 2, none⟩ = some (.slice A2 n2 c2) := ⟨X1.out.c0, X1.out.c1, X1.out.c2⟩
    clear b1 hb k0 k1 k2
    go_wp2_with fail
    refine (FR.out _).mono ?_
    rintro e w2 ⟨rfl, rfl⟩
    go_wp2_with fail
    refine (WP.out _ B1.out).mono ?_
    rintro e w2 ⟨rfl, rfl⟩
    go_wp2_with fail
    refine (WS.out _ B1.out).mono ?_
    rintro e w2 ⟨rfl, rfl⟩
    go_wp2_with fail
    refine (WN.out _ B1.out).mono ?_
    rintro e w2 ⟨rfl, rfl⟩
    go_wp2
    go_ret
    exact ⟨rfl, B1.out⟩
end Go.Proofs.Ytfhikdgdckfalaa
