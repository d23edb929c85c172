/-
  PLAIN LAW: the quotient of a number of 128 bits by one of 64, digit by digit of 32 bits; and the long division bit by bit. No program in sight.
-/
namespace Go.Proofs.Ytfalmbcnbomaoaa.DivLaw
/-- One digit to the base B: what the loop keeps: q is at least the digit, u = q y1 + r. -/
structure Digit (B u y1 y0 u1 q r : Nat) : Prop where
  hu : u = q * y1 + r
  hq : (u * B + u1) / (y1 * B + y0) ≤ q

section
variable {B u y1 y0 u1 q r : Nat}

theorem digit_pos (hB : 0 < B) (hy : B ≤ 2 * y1) : 0 < y1 * B + y0 := by
  have := Nat.mul_pos (show 0 < y1 by omega) hB
  omega

theorem digit_lt (hB : 0 < B) (hy : B ≤ 2 * y1) (hu : u < y1 * B + y0) (h1 : u1 < B) : (u * B + u1) / (y1 * B + y0) < B := by
  rw [Nat.div_lt_iff_lt_mul (digit_pos hB hy), Nat.mul_comm B]
  generalize y1 * B + y0 = Y at *
  have := Nat.mul_le_mul_right B (show u + 1 ≤ Y by omega)
  rw [Nat.add_mul] at this
  omega

theorem digit_key (hu : u = q * y1 + r) : q * (y1 * B + y0) + r * B = u * B + q * y0 := by
  subst hu
  rw [Nat.mul_add, Nat.add_mul, ← Nat.mul_assoc]
  omega

/-- At the start. -/
theorem digit_start (hB : 0 < B) (hy : B ≤ 2 * y1) (h1 : u1 < B) : Digit B u y1 y0 u1 (u / y1) (u % y1) := by
  refine ⟨by rw [Nat.mul_comm]; exact (Nat.div_add_mod u y1).symm, ?_⟩
  have e : (u * B + u1) / (y1 * B + y0) ≤ (u * B + u1) / (y1 * B) := Nat.div_le_div_left (by omega) (Nat.mul_pos (by omega) hB)
  refine Nat.le_trans e ?_
  rw [Nat.mul_comm y1, ← Nat.div_div_eq_div_mul]
  have : (u * B + u1) / B = u := by rw [Nat.mul_comm, Nat.mul_add_div hB, Nat.div_eq_of_lt h1]; rfl
  rw [this]; exact Nat.le_refl _

theorem digit_first (hy : B ≤ 2 * y1) (h0 : y0 < B) (hu : u < y1 * B + y0) : u / y1 ≤ B + 1 := by
  have : u / y1 < B + 2 := by
    rw [Nat.div_lt_iff_lt_mul (by omega), Nat.add_mul, Nat.mul_comm B]
    omega
  omega

/-- One that is too great: one less is not less than the digit. -/
theorem digit_big (d : Digit B u y1 y0 u1 q r) (hB : 0 < B) (hy : B ≤ 2 * y1) (hu : u < y1 * B + y0) (h1 : u1 < B) (h : B ≤ q) :
    1 ≤ q ∧ Digit B u y1 y0 u1 (q - 1) (r + y1) := by
  have hl := digit_lt hB hy hu h1
  obtain ⟨du, dq⟩ := d
  refine ⟨by omega, ?_, by omega⟩
  obtain ⟨p, rfl⟩ : ∃ p, q = p + 1 := ⟨q - 1, by omega⟩
  rw [Nat.add_mul] at du
  simp only [Nat.add_sub_cancel]
  omega

theorem digit_over (d : Digit B u y1 y0 u1 q r) (hB : 0 < B) (hy : B ≤ 2 * y1) (h : r * B + u1 < q * y0) : 1 ≤ q ∧ Digit B u y1 y0 u1 (q - 1) (r + y1) := by
  obtain ⟨du, dq⟩ := d
  have hq0 : 1 ≤ q := by
    rcases Nat.eq_zero_or_pos q with h0 | h0
    · subst h0; omega
    · exact h0
  refine ⟨hq0, ?_, ?_⟩
  · obtain ⟨p, rfl⟩ : ∃ p, q = p + 1 := ⟨q - 1, by omega⟩
    rw [Nat.add_mul] at du
    simp only [Nat.add_sub_cancel]
    omega
  · have hk := digit_key (B := B) (y0 := y0) du
    have : (u * B + u1) / (y1 * B + y0) < q := by
      rw [Nat.div_lt_iff_lt_mul (digit_pos hB hy)]
      generalize q * (y1 * B + y0) = A at *
      omega
    omega

/-- The loop's end by its test. -/
theorem digit_end (d : Digit B u y1 y0 u1 q r) (hB : 0 < B) (hy : B ≤ 2 * y1) (h : q * y0 ≤ r * B + u1) : q = (u * B + u1) / (y1 * B + y0) := by
  obtain ⟨du, dq⟩ := d
  have hk := digit_key (B := B) (y0 := y0) du
  have : q ≤ (u * B + u1) / (y1 * B + y0) := by
    rw [Nat.le_div_iff_mul_le (digit_pos hB hy)]
    generalize q * (y1 * B + y0) = A at *
    omega
  omega

/-- The loop's end by its break. -/
theorem digit_break (d : Digit B u y1 y0 u1 q r) (hB : 0 < B) (hy : B ≤ 2 * y1) (h0 : y0 < B) (hq : q ≤ B) (hr : B ≤ r) :
    q = (u * B + u1) / (y1 * B + y0) := by
  refine digit_end d hB hy ?_
  have h1 := Nat.mul_le_mul hq (show y0 ≤ B by omega)
  have h2 := Nat.mul_le_mul_right B hr
  omega

/-- Two digits make the quotient, and what is left the remainder. -/
theorem two_digits (n y a1 a0 U : Nat) (hU : U = (n * B + a1) * B + a0) (hy : 0 < y) :
    (n * B + a1) / y * B + ((n * B + a1) % y * B + a0) / y = U / y ∧ ((n * B + a1) % y * B + a0) % y = U % y := by
  generalize n * B + a1 = A at *
  have e : U = y * (A / y * B) + (A % y * B + a0) := by
    have := Nat.div_add_mod A y
    rw [hU, ← Nat.mul_assoc, ← Nat.add_assoc, ← Nat.add_mul, this]
  constructor
  · rw [e, Nat.mul_add_div hy]
  · rw [e, Nat.mul_add_mod]
end

/-- The division is the same where both are shifted. -/
theorem shifted (U y s : Nat) : U * 2 ^ s / (y * 2 ^ s) = U / y ∧ U * 2 ^ s % (y * 2 ^ s) / 2 ^ s = U % y := by
  have hp : 0 < 2 ^ s := Nat.two_pow_pos s
  constructor
  · exact Nat.mul_div_mul_right _ _ hp
  · rw [Nat.mul_mod_mul_right, Nat.mul_div_cancel _ hp]

/-- THE LONG DIVISION, one step: the bits 'top' that have come are q b + r; a bit more comes. -/
theorem long_step (q r b bit top : Nat) (hbit : bit ≤ 1) (ht : top = q * b + r) (hr : r < b) :
    (b ≤ 2 * r + bit → 2 * top + bit = (2 * q + 1) * b + (2 * r + bit - b) ∧ 2 * r + bit - b < b) ∧
      (2 * r + bit < b → 2 * top + bit = 2 * q * b + (2 * r + bit)) := by
  subst ht
  constructor
  · intro h
    rw [Nat.add_mul, Nat.mul_assoc]
    omega
  · intro h
    rw [Nat.mul_assoc]
    omega
end Go.Proofs.Ytfalmbcnbomaoaa.DivLaw
