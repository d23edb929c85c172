/- A moment (an integer and a rest of a sum) behind a pointer; hydrograph.gcd. -/
import Derived.Test.YtlkocedhhdknoaaMake
import Derived.BigRegion
namespace Go.Proofs.Ytlkocedhhdknoaa
open Go.RowKit
set_option linter.unusedVariables false

/-- The block b holds a moment. -/
structure Mom (w : World) (b W R S : Nat) : Prop where
  lt : b < w.heap.size
  c0 : w.cell? ⟨b, 0, none⟩ = some (.int .i64 W)
  c1 : w.cell? ⟨b, 1, none⟩ = some (.int .u64 R)
  c2 : w.cell? ⟨b, 2, none⟩ = some (.int .u64 S)
  f0 : w.frozen? ⟨b, 0, none⟩ = false
  f1 : w.frozen? ⟨b, 1, none⟩ = false
/-- Nothing but the block b is turned. -/
structure Turns (b : Nat) (w w' : World) : Prop where
  below : ∀ B, B ≤ b → Below B w w'
  size : w'.heap.size = w.heap.size
  cell : ∀ p : Addr, p.block ≠ b → w'.cell? p = w.cell? p
  frozen : ∀ p : Addr, p.block ≠ b → w'.frozen? p = w.frozen? p
theorem Turns.refl (b : Nat) (w : World) : Turns b w w := ⟨fun _ _ => Below.refl _ _, rfl, fun _ _ => rfl, fun _ _ => rfl⟩
theorem Turns.drewN {b : Nat} {w w' : World} (h : Turns b w w') (n : Nat) : Turns b w (w'.drewN n) := ⟨fun B hB => below_drewN (h.below B hB) n, h.size, h.cell, h.frozen⟩
theorem Turns.set {b : Nat} {w w' : World} (h : Turns b w w') (k : Nat) (u : Value) : Turns b w (w'.setCell ⟨b, k, none⟩ u) :=
  ⟨fun B hB => (h.below B hB).setCell hB u, by simpa using h.size, fun p hp => (World.cell?_setCell_other w' ⟨b, k, none⟩ p u (by intro e; exact hp (by rw [← e]))).trans (h.cell p hp), fun p hp => by simpa using h.frozen p hp⟩

theorem Turns.drew {b : Nat} {w w' : World} (h : Turns b w w') : Turns b w w'.drew := h.drewN 1
theorem Turns.trans {b : Nat} {w w' w'' : World} (h : Turns b w w') (k : Turns b w' w'') : Turns b w w'' :=
  ⟨fun B hB => (h.below B hB).trans (k.below B hB), k.size.trans h.size, fun p hp => (k.cell p hp).trans (h.cell p hp), fun p hp => (k.frozen p hp).trans (h.frozen p hp)⟩
theorem Mom.turns {w w' : World} {b c W R S : Nat} (h : Mom w b W R S) (t : Turns c w w') (hb : b ≠ c) : Mom w' b W R S :=
  ⟨by rw [t.size]; exact h.lt, (t.cell _ hb).trans h.c0, (t.cell _ hb).trans h.c1, (t.cell _ hb).trans h.c2, (t.frozen _ hb).trans h.f0, (t.frozen _ hb).trans h.f1⟩
theorem Mom.below {w w' : World} {b W R S B : Nat} (h : Mom w b W R S) (hb : Below B w w') (hB : b < B) : Mom w' b W R S :=
  ⟨Nat.lt_of_lt_of_le h.lt hb.size, (hb.cell hB).trans h.c0, (hb.cell hB).trans h.c1, (hb.cell hB).trans h.c2, (hb.frozen hB).trans h.f0, (hb.frozen hB).trans h.f1⟩
theorem Mom.alloc {w : World} {b W R S : Nat} (h : Mom w b W R S) (o : Obj) : Mom (w.alloc o) b W R S := h.below ((Below.refl w.heap.size _).alloc (Nat.le_refl _) o) h.lt
abbrev momO (S : Nat) : Obj := Obj.cells #[.int .i64 0, .int .u64 0, .int .u64 S] 69
theorem Mom.made (w : World) (S : Nat) : Mom (w.alloc (momO S)) w.heap.size 0 0 S := ⟨by simp, by go_simp, by go_simp, by go_simp, by go_simp, by go_simp⟩
theorem Mom.drew {w : World} {b W R S : Nat} (h : Mom w b W R S) : Mom w.drew b W R S := ⟨h.lt, h.c0, h.c1, h.c2, h.f0, h.f1⟩
theorem Mom.setW {w : World} {b W R S W' : Nat} (h : Mom w b W R S) {x : Int} (hx : x = W') : Mom (w.setCell ⟨b, 0, none⟩ (.int .i64 x)) b W' R S := by
  subst hx
  have hs : (w.setCell ⟨b, 0, none⟩ (.int .i64 (W' : Int))).heap.size = w.heap.size := by simp [World.setCell]
  refine ⟨by rw [hs]; exact h.lt, World.cell?_setCell_same (u := .int .i64 W) w ⟨b, 0, none⟩ _ h.c0, ?_, ?_, ?_, ?_⟩
  · rw [World.cell?_setCell_other w _ _ _ (by intro e; injection e; omega)]; exact h.c1
  · rw [World.cell?_setCell_other w _ _ _ (by intro e; injection e; omega)]; exact h.c2
  · rw [World.frozen?_setCell]; exact h.f0
  · rw [World.frozen?_setCell]; exact h.f1
theorem Mom.setR {w : World} {b W R S R' : Nat} (h : Mom w b W R S) {x : Int} (hx : x = R') : Mom (w.setCell ⟨b, 1, none⟩ (.int .u64 x)) b W R' S := by
  subst hx
  have hs : (w.setCell ⟨b, 1, none⟩ (.int .u64 (R' : Int))).heap.size = w.heap.size := by simp [World.setCell]
  refine ⟨by rw [hs]; exact h.lt, ?_, World.cell?_setCell_same (u := .int .u64 R) w ⟨b, 1, none⟩ _ h.c1, ?_, ?_, ?_⟩
  · rw [World.cell?_setCell_other w _ _ _ (by intro e; injection e; omega)]; exact h.c0
  · rw [World.cell?_setCell_other w _ _ _ (by intro e; injection e; omega)]; exact h.c2
  · rw [World.frozen?_setCell]; exact h.f0
  · rw [World.frozen?_setCell]; exact h.f1

set_option maxHeartbeats 1000000 in
theorem gcd_calls (a0 b0 : Nat) (ha : (a0 : Int) ≤ 18446744073709551615) (hb : (b0 : Int) ≤ 18446744073709551615) (w : World) :
    Calls Try.prog 51 #[.int .u64 a0, .int .u64 b0] w fun e w' => e = .returned (.int .u64 (Nat.gcd a0 b0 : Nat)) ∧ ∃ k, w' = w.drewN k := by
  obtain ⟨g, hg⟩ : ∃ g, Nat.gcd a0 b0 = g := ⟨_, rfl⟩
  rw [hg]
  have HG := Lib.hid hg
  clear hg
  go_enter Try.func51, Try.ntmps51
  go_wp2
  go_loopw [0, 1] (fun va vb wr => ∃ a b k : Nat, va = .int .u64 a ∧ vb = .int .u64 b ∧ (a : Int) ≤ 18446744073709551615 ∧ (b : Int) ≤ 18446744073709551615 ∧ Hid (Nat.gcd a b = g) ∧ wr = w.drewN k) (fun _ vb _ => (intOf vb).toNat)
  case atStart => exact ⟨a0, b0, 0, rfl, rfl, ha, hb, HG, rfl⟩
  case round =>
    obtain ⟨a, b, k, rfl, rfl, hia, hib, hg, rfl⟩ := hrel
    by_cases hz : b = 0
    · subst hz
      go_wp2
      go_ret
      exact ⟨ret_i (by rw [← hg.out]; simp), k, rfl⟩
    · have hz' : ((b : Int) != 0) = true := by simp [hz]
      have hlt : a % b < b := Nat.mod_lt _ (by omega)
      go_wp2
      go_region
      all_goals (try go_wp2)
      all_goals (
        go_roundw
        case rel =>
          exact ⟨b, a % b, k + 1, rfl, by rw [Int.natCast_emod], hib, by omega, Lib.hid (by rw [gcd_step, hg.out]), rfl⟩
        case measure => simp [intOf]; omega)

set_option maxHeartbeats 1000000 in
theorem add_calls {b W R S : Nat} (wh r : Nat) (w : World) (h : Mom w b W R S) (hr : R < S) (hr' : r ≤ S) (hW : (W : Int) + wh ≤ 1152921504606846976) (hS : (S : Int) ≤ 1152921504606846976) :
    Calls Try.prog 50 #[.pointer (some ⟨b, 0, none⟩), .int .i64 wh, .int .u64 r] w fun e w' => e = .returned (.tuple #[]) ∧ Turns b w w' ∧ ∃ W' R', Mom w' b W' R' S ∧ R' < S ∧ W' * S + R' = (W * S + R) + (wh * S + r) := by
  have H := Lib.hid h
  obtain ⟨hlt, c0, c1, c2, f0, f1⟩ := h
  have hlt' := Lib.hid hlt
  have hr2 : (r : Int) ≤ S := by omega
  obtain ⟨T, hT⟩ : ∃ T : Nat, (S : Int) - r = T := ⟨S - r, by omega⟩
  by_cases hc : (T : Int) ≤ R
  · obtain ⟨U, hU⟩ : ∃ U : Nat, (R : Int) - T = U := ⟨R - T, by omega⟩
    have HF : Hid (U < S ∧ (W + wh + 1) * S + U = (W * S + R) + (wh * S + r)) := Lib.hid (by
      refine ⟨by omega, ?_⟩
      rw [Nat.add_mul, Nat.add_mul]
      omega)
    go_enter Try.func50, Try.ntmps50
    go_wp2
    go_region
    all_goals (try go_wp2)
    all_goals go_region
    all_goals (try go_wp2)
    all_goals go_returns
    all_goals exact ⟨rfl, (((((Turns.refl _ _).set 0 _).drew).set 0 _).set 1 _).drew, W + wh + 1, U, ((((H.out.setW (W' := W + wh) (by simp)).drew).setW (W' := W + wh + 1) (by simp)).setR rfl).drew, HF.out⟩
  · have hlo : (R : Int) + r ≤ 1152921504606846976 := by omega
    have HF : Hid (R + r < S ∧ (W + wh) * S + (R + r) = (W * S + R) + (wh * S + r)) := Lib.hid (by
      refine ⟨by omega, ?_⟩
      rw [Nat.add_mul]
      omega)
    go_enter Try.func50, Try.ntmps50
    go_wp2
    go_region
    all_goals (try go_wp2)
    all_goals go_returns
    all_goals exact ⟨rfl, ((((Turns.refl _ _).set 0 _)).set 1 _).drew, W + wh, R + r, (((H.out.setW (W' := W + wh) (by simp))).setR (by simp)).drew, HF.out⟩
end Go.Proofs.Ytlkocedhhdknoaa
