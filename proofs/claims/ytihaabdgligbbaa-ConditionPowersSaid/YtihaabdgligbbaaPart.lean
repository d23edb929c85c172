/- Part of the reference: the quotient of a product, bit by bit. -/
import Derived.Test.YtihaabdgligbbaaShareLaw
import Derived.WalkLawsBesides
import Derived.Laws.BitsAllLaws
import Derived.Laws.BitsLemmas
namespace Go.Proofs.Ytihaabdgligbbaa
open Go.RowKit
set_option linter.unusedVariables false

theorem ofInt_i64 (a : Nat) (ha : a < 9223372036854775808) : (BitVec.ofInt 64 (a : Int)).toNat = a := by
  rw [BitVec.ofInt_natCast, BitVec.toNat_ofNat]; exact Nat.mod_eq_of_lt (by omega)
theorem i64_and_nat (a b : Nat) (ha : a < 9223372036854775808) (hb : b < 9223372036854775808) : bits .and .i64 (a : Int) (b : Int) = ((a &&& b : Nat) : Int) := by
  have hx : a &&& b < 2 ^ 63 := Nat.and_lt_two_pow _ (by omega)
  show IntKind.i64.wrap ((BitVec.ofInt 64 (a : Int) &&& BitVec.ofInt 64 (b : Int)).toNat : Int) = _
  rw [BitVec.toNat_and, ofInt_i64 a ha, ofInt_i64 b hb, IntKind.wrap_i64]
  omega

/-- The bit under way: 2^(j - 1), at last 0. -/
def bitAt (j : Nat) : Nat := if j = 0 then 0 else 2 ^ (j - 1)
theorem bit_zero_iff (T i : Nat) : (T &&& 2 ^ i = 0) ↔ T / 2 ^ i % 2 = 0 := by
  constructor
  · intro h
    have h2 : (T &&& 2 ^ i).testBit i = false := by rw [h]; simp
    rw [Nat.testBit_and, Nat.testBit_two_pow_self, Bool.and_true, Nat.testBit_eq_decide_div_mod_eq] at h2
    simp at h2; omega
  · intro h
    apply Nat.eq_of_testBit_eq
    intro j
    rw [Nat.testBit_and, Nat.testBit_two_pow, Nat.zero_testBit]
    by_cases hij : i = j
    · subst hij
      rw [Nat.testBit_eq_decide_div_mod_eq, decide_eq_false (by omega)]; rfl
    · rw [decide_eq_false hij, Bool.and_false]
theorem shift_step (T i : Nat) : T / 2 ^ i = 2 * (T / 2 ^ (i + 1)) + T / 2 ^ i % 2 := by
  rw [Nat.pow_succ, ← Nat.div_div_eq_div_mul]; omega
/-- What the loop keeps: q W + r = M. -/
theorem part_step0 {T p W q r i : Nat} (h : q * W + r = T / 2 ^ (i + 1) * p) (hb : T / 2 ^ i % 2 = 0) : 2 * q * W + 2 * r = T / 2 ^ i * p := by
  have e := shift_step T i
  rw [hb, Nat.add_zero] at e
  rw [e, Nat.mul_assoc, Nat.mul_assoc, ← h]; omega
theorem part_step1 {T p W q r i : Nat} (h : q * W + r = T / 2 ^ (i + 1) * p) (hb : T / 2 ^ i % 2 = 1) : 2 * q * W + (2 * r + p) = T / 2 ^ i * p := by
  have e := shift_step T i
  rw [hb] at e
  rw [e, Nat.add_mul, Nat.mul_assoc, Nat.mul_assoc, ← h]; omega
theorem part_q {T p W q r i : Nat} (h : q * W + r = T / 2 ^ i * p) (hp : p ≤ W) (hW : 0 < W) : q ≤ T := by
  have h1 : T / 2 ^ i * p ≤ T * W := Nat.mul_le_mul (Nat.div_le_self _ _) hp
  exact Nat.le_of_mul_le_mul_right (by omega : q * W ≤ T * W) hW
theorem part_sub {W q r M : Nat} (h : q * W + r = M) (hr : W ≤ r) : (q + 1) * W + (r - W) = M := by
  rw [Nat.add_mul]; omega
theorem part_end {T p W q r : Nat} (h : q * W + r = T / 2 ^ 0 * p) (hr : r < W) : q = T * p / W := by
  rw [Nat.pow_zero, Nat.div_one] at h
  rw [← h, Nat.mul_comm q W, Nat.mul_add_div (by omega), Nat.div_eq_of_lt hr, Nat.add_zero]

set_option maxHeartbeats 4000000 in
theorem Part_ref (T p W : Nat) (hT : T ≤ 1125899906842624) (hp : p ≤ W) (hW0 : 0 < W) (hW : W ≤ 1152921504606846976) (w : World) :
    Calls Try.prog 70 #[.int .i64 T, .int .i64 p, .int .i64 W] w fun e w' => e = .returned (.int .i64 ((T * p / W : Nat) : Int)) ∧ w = w' := by
  generalize hv : T * p / W = v
  have HV := Lib.hid hv
  clear hv
  go_enter Try.func70, Try.ntmps70
  go_wp2
  go_loop [7, 8, 9] (fun a b d => ∃ (j B q r : Nat), j ≤ 62 ∧ Hid (B = bitAt j) ∧ a = .int .i64 q ∧ b = .int .i64 r ∧ d = .int .i64 B ∧ Hid (q * W + r = T / 2 ^ j * p) ∧ r < W) (fun _ _ d => (intOf d).toNat)
  case atStart => exact ⟨62, 2305843009213693952, 0, 0, Nat.le_refl _, by rfl, rfl, rfl, rfl, by unfold Hid; rw [Nat.div_eq_of_lt (by omega)]; simp, hW0⟩
  case round =>
    obtain ⟨j, B, q, r, hj, hB, rfl, rfl, rfl, hinv, hr⟩ := hrel
    cases j with
    | zero =>
      obtain rfl : B = 0 := hB.out
      have HE : Hid (q = v) := Lib.hid ((part_end hinv.out hr).trans HV.out)
      go_wp2
      go_ret
      exact ⟨by rw [HE.out]; rfl, rfl⟩
    | succ i =>
      have hBi : B = 2 ^ i := by have := hB.out; unfold bitAt at this; simpa using this
      have hB0 : 0 < B := by rw [hBi]; exact Nat.two_pow_pos i
      have hB1 : B ≤ 2305843009213693952 := by rw [hBi, show 2305843009213693952 = 2 ^ 61 by rfl]; exact Nat.pow_le_pow_right (by omega) (by omega)
      have hq := part_q hinv.out hp hW0
      obtain ⟨B2, hB2⟩ : ∃ B2 : Nat, (B : Int) / 2 = B2 := ⟨B / 2, by omega⟩
      have hB2' : Hid (B2 = bitAt i) := Lib.hid (by
        have : B2 = B / 2 := by omega
        rw [this, hBi]
        unfold bitAt
        cases i with
        | zero => rfl
        | succ i => rw [if_neg (by omega), Nat.pow_succ, Nat.mul_div_cancel _ (by omega)]; rfl)
      have hand := i64_and_nat T B (by omega) (by omega)
      obtain ⟨X, hX⟩ : ∃ X, T &&& B = X := ⟨_, rfl⟩
      rw [hX] at hand
      have hXz : X = 0 ↔ T / 2 ^ i % 2 = 0 := by rw [← hX, hBi]; exact bit_zero_iff T i
      have HB2 : Hid (B2 < B) := Lib.hid (by omega)
      clear hX
      by_cases hz : X = 0
      · have e := part_step0 hinv.out (hXz.1 hz)
        have hz' : ((X : Int) != 0) = false := by rw [bne_eq_false_iff_eq]; omega
        have E := Lib.hid e
        clear e hXz hz hB hBi hinv
        go_wp2
        go_loop [7, 8] (fun a b => ∃ (q1 r1 : Nat), a = .int .i64 q1 ∧ b = .int .i64 r1 ∧ Hid (q1 * W + r1 = T / 2 ^ i * p) ∧ r1 ≤ 3 * W) (fun _ b => (intOf b).toNat)
        case atStart => exact ⟨2 * q, 2 * r, by go_num, by go_num, E, by omega⟩
        case round =>
          obtain ⟨q1, r1, rfl, rfl, hi1, hr1⟩ := hrel
          have hq1 := part_q hi1.out hp hW0
          by_cases hge : W ≤ r1
          · have HS := Lib.hid (part_sub hi1.out hge)
            go_wp2
            go_round
            case rel => exact ⟨q1 + 1, r1 - W, by go_num, by go_num, HS, by omega⟩
            case measure => simp [intOf]; try omega
          · go_wp2
            go_round
            case rel => exact ⟨i, B2, q1, r1, by omega, hB2', rfl, rfl, rfl, hi1, by omega⟩
            case measure => have := HB2.out; simp [intOf]; try omega
      · have hone : T / 2 ^ i % 2 = 1 := by have : ¬ T / 2 ^ i % 2 = 0 := fun h => hz (hXz.2 h); omega
        have e := part_step1 hinv.out hone
        have hz' : ((X : Int) != 0) = true := by rw [bne_iff_ne]; omega
        have E := Lib.hid e
        clear hone
        clear e hXz hz hB hBi hinv
        go_wp2
        go_loop [7, 8] (fun a b => ∃ (q1 r1 : Nat), a = .int .i64 q1 ∧ b = .int .i64 r1 ∧ Hid (q1 * W + r1 = T / 2 ^ i * p) ∧ r1 ≤ 3 * W) (fun _ b => (intOf b).toNat)
        case atStart => exact ⟨2 * q, 2 * r + p, by go_num, by go_num, E, by omega⟩
        case round =>
          obtain ⟨q1, r1, rfl, rfl, hi1, hr1⟩ := hrel
          have hq1 := part_q hi1.out hp hW0
          by_cases hge : W ≤ r1
          · have HS := Lib.hid (part_sub hi1.out hge)
            go_wp2
            go_round
            case rel => exact ⟨q1 + 1, r1 - W, by go_num, by go_num, HS, by omega⟩
            case measure => simp [intOf]; try omega
          · go_wp2
            go_round
            case rel => exact ⟨i, B2, q1, r1, by omega, hB2', rfl, rfl, rfl, hi1, by omega⟩
            case measure => have := HB2.out; simp [intOf]; try omega
end Go.Proofs.Ytihaabdgligbbaa
