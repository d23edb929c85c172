/- math/bits.Div64 returns quotient and remainder where the quotient fits. -/
import Derived.Test.YtfalmbcnbomaoaaBitsSlow
namespace Go.Proofs.Ytfalmbcnbomaoaa
open Go.RowKit Go.Proofs.Ytfalmbcnbomaoaa.DivLaw
set_option linter.unusedVariables false
theorem digit_rest (u u1 Q Y v : Nat) (hY : Y < 18446744073709551616) (h : Y * Q + v = u * 4294967296 + u1) (hv : v < Y) :
    IntKind.u64.wrap (IntKind.u64.wrap (IntKind.u64.wrap ((u : Int) * 4294967296) + (u1 : Int)) - IntKind.u64.wrap ((Q : Int) * (Y : Int))) = (v : Int) := by
  have e : (Q : Int) * (Y : Int) = ((Y * Q : Nat) : Int) := by rw [Int.natCast_mul, Int.mul_comm]
  rw [e]
  generalize Y * Q = P at *
  simp only [IntKind.wrap_u64]
  omega

/-- One digit, in whole numbers of the walk. -/
theorem digit_int (u u1 y1 y0 : Nat) (hy : 2147483648 ≤ y1) (hY : y1 * 4294967296 + y0 < 18446744073709551616) (h0 : y0 < 4294967296) (h1 : u1 < 4294967296) (hu : u < y1 * 4294967296 + y0) :
    (u : Int) / (y1 : Int) = ((u / y1 : Nat) : Int) ∧ ((u / y1 : Nat) : Int) ≤ 4294967297 ∧ 0 ≤ ((u / y1 : Nat) : Int) * (y1 : Int) ∧ ((u / y1 : Nat) : Int) * (y1 : Int) ≤ (u : Int) ∧
      (u : Int) - ((u / y1 : Nat) : Int) * (y1 : Int) = ((u % y1 : Nat) : Int) ∧ ((u % y1 : Nat) : Int) < (y1 : Int) ∧
      (((u * 4294967296 + u1) / (y1 * 4294967296 + y0) : Nat) : Int) ≤ 4294967295 ∧
      IntKind.u64.wrap (IntKind.u64.wrap (IntKind.u64.wrap ((u : Int) * 4294967296) + (u1 : Int)) - IntKind.u64.wrap ((((u * 4294967296 + u1) / (y1 * 4294967296 + y0) : Nat) : Int) * ((y1 * 4294967296 + y0 : Nat) : Int))) =
        (((u * 4294967296 + u1) % (y1 * 4294967296 + y0) : Nat) : Int) ∧
      (u * 4294967296 + u1) % (y1 * 4294967296 + y0) < y1 * 4294967296 + y0 ∧
      Digit 4294967296 u y1 y0 u1 (u / y1) (u % y1) := by
  have a1 := digit_first (B := 4294967296) (by omega) h0 hu
  have a2 := digit_lt (B := 4294967296) (by omega) (by omega) hu h1
  have a3 := Nat.div_mul_le_self u y1
  have a4 := Nat.div_add_mod u y1
  have a5 := Nat.mod_lt u (show 0 < y1 by omega)
  have a6 := Nat.div_add_mod (u * 4294967296 + u1) (y1 * 4294967296 + y0)
  have a7 := Nat.mod_lt (u * 4294967296 + u1) (show 0 < y1 * 4294967296 + y0 by omega)
  refine ⟨(Int.natCast_ediv u y1).symm, by omega, ?_, ?_, ?_, by omega, by omega, ?_, a7, digit_start (by omega) (by omega) h1⟩
  · rw [← Int.natCast_mul]; omega
  · rw [← Int.natCast_mul]; omega
  · rw [← Int.natCast_mul]; rw [Nat.mul_comm] at a4; omega
  · exact digit_rest _ _ _ _ _ (by omega) a6 a7

theorem shift_parts (hi lo S : Nat) (hS : S ≤ 64) :
    lo * 2 ^ S / 18446744073709551616 = lo / 2 ^ (64 - S) ∧ (lo < 18446744073709551616 → lo / 2 ^ (64 - S) < 2 ^ S) ∧
      (hi * 2 ^ S + lo / 2 ^ (64 - S)) * 18446744073709551616 + lo * 2 ^ S % 18446744073709551616 = (hi * 18446744073709551616 + lo) * 2 ^ S := by
  have e : (18446744073709551616 : Nat) = 2 ^ (64 - S) * 2 ^ S := by rw [← Nat.pow_add, show 64 - S + S = 64 by omega]
  have h1 : lo * 2 ^ S / 18446744073709551616 = lo / 2 ^ (64 - S) := by rw [e, Nat.mul_div_mul_right _ _ (Nat.two_pow_pos S)]
  refine ⟨h1, fun h => ?_, ?_⟩
  · rw [Nat.div_lt_iff_lt_mul (Nat.two_pow_pos _), Nat.mul_comm, ← e]; exact h
  · have := Nat.div_add_mod (lo * 2 ^ S) 18446744073709551616
    rw [h1] at this
    rw [Nat.add_mul, Nat.add_mul, Nat.add_assoc, Nat.mul_comm (lo / 2 ^ (64 - S)), this, Nat.mul_right_comm]

set_option maxHeartbeats 1000000 in
theorem div64_fast (lo y : Nat) (hlo : (lo : Int) ≤ 18446744073709551615) (h0 : (0 : Int) < y) (hy : (y : Int) ≤ 18446744073709551615) (hy0 : ((y : Int) == 0) = false) (w : World) :
    Calls Try.prog 64 #[.int .u64 0, .int .u64 lo, .int .u64 y] w fun e w' => e = .returned (.tuple #[.int .u64 ((lo : Int) / (y : Int)), .int .u64 ((lo : Int) % (y : Int))]) ∧ ∃ n, w' = w.drewN n := by
  have h1 : IntKind.u64.wrap ((lo : Int) / (y : Int)) = (lo : Int) / (y : Int) := by
    have := IntWalk.tdiv_le (lo : Int) (y : Int) (by omega) (by omega)
    exact IntWalk.u64_in _ (by omega)
  go_enter Try.func64, Try.ntmps64
  go_wp2
  go_quiet (fail)
  go_wp2
  go_ret2
  exact ⟨rfl, _, rfl⟩

theorem two_words (u u1 u0 C : Nat) (h : C = u1 * 4294967296 + u0) : u * 18446744073709551616 + C = (u * 4294967296 + u1) * 4294967296 + u0 := by omega
theorem natCast_two_pow (k : Nat) : ((2 ^ k : Nat) : Int) = 2 ^ k := by simp

set_option maxHeartbeats 1000000 in
/-- math/bits.Div64: quotient and remainder of a number of 128 bits, where the quotient fits. -/
theorem div64_calls (hi lo y : Nat) (hlo : lo < 18446744073709551616) (hhi : hi < y) (hy : y < 18446744073709551616) (w : World) :
    Calls Try.prog 64 #[.int .u64 hi, .int .u64 lo, .int .u64 y] w fun e w' =>
      e = .returned (.tuple #[.int .u64 (((hi * 18446744073709551616 + lo) / y : Nat) : Int), .int .u64 (((hi * 18446744073709551616 + lo) % y : Nat) : Int)]) ∧ ∃ n, w' = w.drewN n := by
  have hb0 : ((y : Int) == 0) = false := by rw [beq_eq_false_iff_ne]; omega
  rcases Nat.eq_zero_or_pos hi with h0 | h0
  · subst h0
    refine (div64_fast lo y (by omega) (by omega) (by omega) hb0 w).mono ?_
    rintro e w' ⟨rfl, hw⟩
    refine ⟨?_, hw⟩
    rw [Nat.zero_mul, Nat.zero_add, Int.natCast_ediv, Int.natCast_emod]
  · obtain ⟨L1, L2, L3⟩ := Lib.bitLenAux_bounds 64 y (by omega) (by omega)
    have L4 : Lib.bitLen y ≤ 64 := Lib.bitLen_le y 64 (by omega) (by omega)
    have c := lz64_calls (y : Int) w (by omega) (by omega)
    rw [Int.toNat_natCast] at c
    change 2 ^ (Lib.bitLen y - 1) ≤ y at L2
    change y < 2 ^ Lib.bitLen y at L3
    change 1 ≤ Lib.bitLen y at L1
    obtain ⟨S, hS⟩ : ∃ S, S = 64 - Lib.bitLen y := ⟨_, rfl⟩
    rw [show (64 : Int) - ((Lib.bitLen y : Nat) : Int) = (S : Int) by omega] at c
    have p1 : 2 ^ 63 = 2 ^ (Lib.bitLen y - 1) * 2 ^ S := by rw [← Nat.pow_add]; congr 1; omega
    have p2 : 2 ^ 64 = 2 ^ Lib.bitLen y * 2 ^ S := by rw [← Nat.pow_add]; congr 1; omega
    have Y1 : 9223372036854775808 ≤ y * 2 ^ S := by
      have := Nat.mul_le_mul_right (2 ^ S) L2
      rw [← p1] at this; exact this
    have Y2 : y * 2 ^ S < 18446744073709551616 := by
      have := Nat.mul_lt_mul_of_pos_right L3 (Nat.two_pow_pos S)
      rw [← p2] at this; exact this
    obtain ⟨s1, s2, s3⟩ := shift_parts hi lo S (by omega)
    have s2 := s2 hlo
    have hA : hi * 2 ^ S < y * 2 ^ S := Nat.mul_lt_mul_of_pos_right hhi (Nat.two_pow_pos S)
    have hor : hi * 2 ^ S ||| lo / 2 ^ (64 - S) = hi * 2 ^ S + lo / 2 ^ (64 - S) := by
      rw [Nat.mul_comm hi, ← Nat.two_pow_add_eq_or_of_lt s2]
    have sh := shifted (hi * 18446744073709551616 + lo) y S
    rw [← s3] at sh
    obtain ⟨A, eA⟩ : ∃ A, A = hi * 2 ^ S := ⟨_, rfl⟩
    obtain ⟨Bv, eB⟩ : ∃ A, A = lo / 2 ^ (64 - S) := ⟨_, rfl⟩
    obtain ⟨C, eC⟩ : ∃ A, A = lo * 2 ^ S % 18446744073709551616 := ⟨_, rfl⟩
    obtain ⟨Y, eY⟩ : ∃ A, A = y * 2 ^ S := ⟨_, rfl⟩
    rw [← eA, ← eB, ← eC] at sh s3
    rw [← eY] at sh Y1 Y2 hA
    rw [← eA, ← eB] at hor
    rw [← eA] at hA
    have huY : A + Bv < Y := by
      have h1 : (hi * 18446744073709551616 + lo) * 2 ^ S < 18446744073709551616 * Y := by
        rw [eY, ← Nat.mul_assoc]
        exact Nat.mul_lt_mul_of_pos_right (by omega) (Nat.two_pow_pos S)
      omega
    have hC : C < 18446744073709551616 := by rw [eC]; exact Nat.mod_lt _ (by omega)
    obtain ⟨u, eu⟩ : ∃ u, u = A + Bv := ⟨_, rfl⟩
    rw [← eu] at sh huY hor
    have e6 := bits_or_u64_nat A Bv (by omega) (by omega)
    rw [hor] at e6
    have e3 := Mul64.maskN Y Y2
    have e9 := Mul64.maskN C hC
    obtain ⟨y1, ey1⟩ : ∃ a, a = Y / 4294967296 := ⟨_, rfl⟩
    obtain ⟨y0, ey0⟩ : ∃ a, a = Y % 4294967296 := ⟨_, rfl⟩
    obtain ⟨u1, eu1⟩ : ∃ a, a = C / 4294967296 := ⟨_, rfl⟩
    obtain ⟨u0, eu0⟩ : ∃ a, a = C % 4294967296 := ⟨_, rfl⟩
    rw [← ey0] at e3
    rw [← eu0] at e9
    have eYY : Y = y1 * 4294967296 + y0 := by omega
    have eCC : C = u1 * 4294967296 + u0 := by omega
    obtain ⟨a1, a2, a3, a4, a5, a6, a7, a8, a9, a10⟩ := digit_int u u1 y1 y0 (by omega) (by omega) (by omega) (by omega) (by omega)
    obtain ⟨b1, b2, b3, b4, b5, b6, b7, b8, b9, b10⟩ := digit_int ((u * 4294967296 + u1) % (y1 * 4294967296 + y0)) u0 y1 y0 (by omega) (by omega) (by omega) (by omega) a9
    have td := two_digits (B := 4294967296) u (y1 * 4294967296 + y0) u1 u0 (u * 18446744073709551616 + C) (two_words u u1 u0 C eCC) (by omega)
    rw [← eYY] at td a7 a8 a9 b1 b2 b3 b4 b5 b6 b7 b8 b9 b10
    have h1 : (y : Int) * 2 ^ S = (Y : Int) := by rw [eY, Int.natCast_mul, natCast_two_pow]
    have h4 : (hi : Int) * 2 ^ S = (A : Int) := by rw [eA, Int.natCast_mul, natCast_two_pow]
    have h5 : (lo : Int) / 2 ^ (64 - S) = (Bv : Int) := by rw [eB, Int.natCast_ediv, natCast_two_pow]
    have h7 : IntKind.u64.wrap ((lo : Int) * 2 ^ S) = (C : Int) := by
      have e : (lo : Int) * 2 ^ S = ((lo * 2 ^ S : Nat) : Int) := by rw [Int.natCast_mul, natCast_two_pow]
      rw [e, Mul64.wrapM, ← eC]
    refine (div64_slow hi lo y S Y A Bv u C y1 y0 u1 u0 _ _ _ _ _ _ _ _ (by omega) (by rw [beq_eq_false_iff_ne]; omega) (by omega) (by omega) hb0 (by omega)
      h1 (by omega) (by omega) e3 (by omega) (by omega) (by omega) h4 (by omega) h5 e6 (by omega) h7 (by omega) e9 (by omega) (by omega)
      a1 a2 a3 a4 a5 a6 (Lib.hid (by omega)) (Lib.hid (by rw [← eYY])) a7 a8 (by omega) (Lib.hid (by rw [← eYY]; exact a9)) b1 b2 b3 b4 b5 b6 (Lib.hid (by rw [← eYY])) b7 b8 (Lib.hid a10) (Lib.hid b10) w c).mono ?_
    rintro e w' ⟨rfl, rfl⟩
    refine ⟨?_, 0, rfl⟩
    rw [← sh.1, ← sh.2, ← td.1, ← td.2, Int.natCast_ediv _ (2 ^ S), natCast_two_pow, Int.natCast_add, Int.natCast_mul]
    rfl
end Go.Proofs.Ytfalmbcnbomaoaa
