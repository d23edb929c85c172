/- ratio.Valid and ratio.Cmp at fractions that are not negative. -/
import Derived.Test.YtihaabdgligbbaaMake
import Derived.BigQuiet
import Derived.Deep.QuietTactic
import Derived.IntWalk
import Derived.Test.YtihaabdgligbbaaPair
namespace Go.Proofs.Ytihaabdgligbbaa
open Go.RowKit
set_option linter.unusedVariables false

/-- A fraction in lowest terms. -/
structure FracOk (a b : Nat) : Prop where
  a1 : a ≤ 1073741824
  b0 : 1 ≤ b
  b1 : b ≤ 1073741824
  g : Nat.gcd a b = 1

set_option maxHeartbeats 1000000 in
set_option maxRecDepth 100000 in
theorem RValid_ok (a b : Nat) (h : FracOk a b) (w : World) :
    Calls Try.prog 59 #[.agg #[.int .i64 a, .int .i64 b]] w fun e w' => e = .returned (.bool true) ∧ Below w.heap.size w w' := by
  obtain ⟨a1, b0, b1, g⟩ := h
  obtain ⟨p0, p1, pl⟩ := Pair.made w (a : Int) (b : Int)
  have sz : ∀ j, Calls Try.prog 61 #[.int .i64 a] ((w.alloc (.cells #[.int .i64 (a : Int), .int .i64 (b : Int)] 27)).drewN j) fun e w'' => e = .returned (.int .u64 a) ∧ ∃ m, w'' = (w.alloc (.cells #[.int .i64 (a : Int), .int .i64 (b : Int)] 27)).drewN m := fun j => (size_calls a (by omega) _).mono fun _ _ ⟨he, hm⟩ => ⟨he, j, hm.symm⟩
  have cm : ∀ j, Calls Try.prog 62 #[.int .u64 a, .int .u64 b] ((w.alloc (.cells #[.int .i64 (a : Int), .int .i64 (b : Int)] 27)).drewN j) fun e w'' => e = .returned (.int .u64 1) ∧ ∃ m, w'' = (w.alloc (.cells #[.int .i64 (a : Int), .int .i64 (b : Int)] 27)).drewN m := fun j => (common_calls a b (by omega) (by omega) _).mono fun _ _ ⟨he, k, hk⟩ => ⟨by rw [he, g]; rfl, j + k, by rw [hk, World.drewN_drewN]⟩
  have SZ := Lib.hid sz
  have CM := Lib.hid cm
  have e1 : IntKind.u64.wrap (b : Int) = b := u64_of_nat b (by omega)
  have c1 : decide ((1 : Int) ≤ b) = true := by simp; omega
  have c2 : decide ((b : Int) ≤ 1073741824) = true := by simp; omega
  have c3 : decide ((-1073741824 : Int) ≤ a) = true := decide_eq_true (by omega)
  have c4 : decide ((a : Int) ≤ 1073741824) = true := by simp; omega
  clear sz cm g
  go_enter Try.func59, Try.ntmps59
  go_wp2
  go_quiet ((first | (go_at_call 61; exact SZ.out _) | (go_at_call 62; exact CM.out _)))
  go_wp2
  go_ret
  exact ⟨rfl, below_drewN ((Below.refl _ _).alloc (Nat.le_refl _) _) _⟩

set_option maxHeartbeats 1000000 in
set_option maxRecDepth 100000 in
theorem Cmp_lt (a b c d : Nat) (h : FracOk a b) (k : FracOk c d) (w : World) (hc : a * d < c * b) :
    Calls Try.prog 38 #[.agg #[.int .i64 a, .int .i64 b], .agg #[.int .i64 c, .int .i64 d]] w fun e w' => e = .returned (.tuple #[.int .i64 (-1), .int .i64 0]) ∧ Below w.heap.size w w' := by
  have v1 := fun W => RValid_ok a b h W
  have v2 := fun W => RValid_ok c d k W
  obtain ⟨a1, b0, b1, -⟩ := h
  obtain ⟨c1, d0, d1, -⟩ := k
  have P0 := Lib.hid ((Pair.made w (a : Int) (b : Int)).alloc (.cells #[.int .i64 (c : Int), .int .i64 (d : Int)] 27))
  have q0 := Pair.made (w.alloc (.cells #[.int .i64 (a : Int), .int .i64 (b : Int)] 27)) (c : Int) (d : Int)
  rw [World.size_alloc] at q0
  have Q0 := Lib.hid q0
  have B0 := Lib.hid (((Below.refl w.heap.size w).alloc (Nat.le_refl _) (.cells #[.int .i64 (a : Int), .int .i64 (b : Int)] 27)).alloc (by simp) (.cells #[.int .i64 (c : Int), .int .i64 (d : Int)] 27))
  have V1 := Lib.hid v1
  have V2 := Lib.hid v2
  obtain ⟨x, hx⟩ : ∃ x : Nat, a * d = x := ⟨_, rfl⟩
  obtain ⟨y, hy⟩ : ∃ y : Nat, c * b = y := ⟨_, rfl⟩
  have hxi : (a : Int) * (d : Int) = (x : Int) := by rw [← hx, Int.natCast_mul]
  have hyi : (c : Int) * (b : Int) = (y : Int) := by rw [← hy, Int.natCast_mul]
  have hxl : x ≤ 1152921504606846976 := by rw [← hx]; exact Nat.mul_le_mul a1 d1
  have hyl : y ≤ 1152921504606846976 := by rw [← hy]; exact Nat.mul_le_mul c1 b1
  rw [hx, hy] at hc
  have hlt : (x : Int) - y < 0 := by omega
  clear q0 v1 v2 hx hy
  go_enter Try.func38, Try.ntmps38
  go_wp2_with fail
  refine (V1.out _).mono ?_
  rintro e w1 ⟨rfl, b1⟩
  have P1 := Lib.hid (P0.out.below b1)
  have Q1 := Lib.hid (Q0.out.below b1)
  have B1 := Lib.hid (below_then B0.out b1 B0.out.size)
  clear b1
  obtain ⟨p0, p1, pl⟩ := P1.out
  obtain ⟨q0, q1, ql⟩ := Q1.out
  go_wp2_with fail
  refine (V2.out _).mono ?_
  rintro e w2 ⟨rfl, b2⟩
  have B2 := Lib.hid (below_then B1.out b2 B1.out.size)
  clear p0 p1 pl q0 q1 ql
  obtain ⟨p0, p1, pl⟩ := P1.out.below b2
  obtain ⟨q0, q1, ql⟩ := Q1.out.below b2
  clear b2
  go_wp2
  go_returns
  exact ⟨rfl, B2.out⟩

set_option maxHeartbeats 1000000 in
set_option maxRecDepth 100000 in
theorem Cmp_eq (a b c d : Nat) (h : FracOk a b) (k : FracOk c d) (w : World) (hc : a * d = c * b) :
    Calls Try.prog 38 #[.agg #[.int .i64 a, .int .i64 b], .agg #[.int .i64 c, .int .i64 d]] w fun e w' => e = .returned (.tuple #[.int .i64 0, .int .i64 0]) ∧ Below w.heap.size w w' := by
  have v1 := fun W => RValid_ok a b h W
  have v2 := fun W => RValid_ok c d k W
  obtain ⟨a1, b0, b1, -⟩ := h
  obtain ⟨c1, d0, d1, -⟩ := k
  have P0 := Lib.hid ((Pair.made w (a : Int) (b : Int)).alloc (.cells #[.int .i64 (c : Int), .int .i64 (d : Int)] 27))
  have q0 := Pair.made (w.alloc (.cells #[.int .i64 (a : Int), .int .i64 (b : Int)] 27)) (c : Int) (d : Int)
  rw [World.size_alloc] at q0
  have Q0 := Lib.hid q0
  have B0 := Lib.hid (((Below.refl w.heap.size w).alloc (Nat.le_refl _) (.cells #[.int .i64 (a : Int), .int .i64 (b : Int)] 27)).alloc (by simp) (.cells #[.int .i64 (c : Int), .int .i64 (d : Int)] 27))
  have V1 := Lib.hid v1
  have V2 := Lib.hid v2
  obtain ⟨x, hx⟩ : ∃ x : Nat, a * d = x := ⟨_, rfl⟩
  obtain ⟨y, hy⟩ : ∃ y : Nat, c * b = y := ⟨_, rfl⟩
  have hxi : (a : Int) * (d : Int) = (x : Int) := by rw [← hx, Int.natCast_mul]
  have hyi : (c : Int) * (b : Int) = (y : Int) := by rw [← hy, Int.natCast_mul]
  have hxl : x ≤ 1152921504606846976 := by rw [← hx]; exact Nat.mul_le_mul a1 d1
  have hyl : y ≤ 1152921504606846976 := by rw [← hy]; exact Nat.mul_le_mul c1 b1
  rw [hx, hy] at hc
  have hlt : (x : Int) - y = 0 := by omega
  have hll : ¬ (x : Int) - y < 0 := by omega
  subst hc
  clear q0 v1 v2 hx hy
  go_enter Try.func38, Try.ntmps38
  go_wp2_with fail
  refine (V1.out _).mono ?_
  rintro e w1 ⟨rfl, b1⟩
  have P1 := Lib.hid (P0.out.below b1)
  have Q1 := Lib.hid (Q0.out.below b1)
  have B1 := Lib.hid (below_then B0.out b1 B0.out.size)
  clear b1
  obtain ⟨p0, p1, pl⟩ := P1.out
  obtain ⟨q0, q1, ql⟩ := Q1.out
  go_wp2_with fail
  refine (V2.out _).mono ?_
  rintro e w2 ⟨rfl, b2⟩
  have B2 := Lib.hid (below_then B1.out b2 B1.out.size)
  clear p0 p1 pl q0 q1 ql
  obtain ⟨p0, p1, pl⟩ := P1.out.below b2
  obtain ⟨q0, q1, ql⟩ := Q1.out.below b2
  clear b2
  go_wp2
  go_returns
  exact ⟨rfl, B2.out⟩
end Go.Proofs.Ytihaabdgligbbaa
