/- integer roots bit by bit, and how the flows grow; no program in sight -/
namespace Go.Proofs.Ytfalmbcnbomaoaa.Open
/-- The root bit by bit: k bits are still to come, r is what has been found. -/
def rootGo (x : Nat) : Nat → Nat → Nat
  | 0, r => r
  | k + 1, r => rootGo x k (if (r + 2 ^ k) * (r + 2 ^ k) ≤ x then r + 2 ^ k else r)
def isqrt (x : Nat) : Nat := rootGo x 63 0

theorem rootGo_spec (x : Nat) : ∀ (k r : Nat), r * r ≤ x → x < (r + 2 ^ k) * (r + 2 ^ k) → rootGo x k r * rootGo x k r ≤ x ∧ x < (rootGo x k r + 1) * (rootGo x k r + 1)
  | 0, r, h1, h2 => ⟨h1, by simpa [rootGo] using h2⟩
  | k + 1, r, h1, h2 => by
    unfold rootGo
    split
    · rename_i h
      refine rootGo_spec x k _ h ?_
      have e : r + 2 ^ k + 2 ^ k = r + 2 ^ (k + 1) := by rw [Nat.pow_succ]; omega
      rw [e]; exact h2
    · rename_i h
      exact rootGo_spec x k _ h1 (by omega)

theorem isqrt_spec (x : Nat) (h : x < 2 ^ 126) : isqrt x * isqrt x ≤ x ∧ x < (isqrt x + 1) * (isqrt x + 1) :=
  rootGo_spec x 63 0 (by simp) (by simpa using h)

theorem sq_lt {a b : Nat} (h : a * a < b * b) : a < b := by
  rcases Nat.lt_or_ge a b with h1 | h1
  · exact h1
  · have := Nat.mul_le_mul h1 h1; omega

theorem isqrt_mono {x y : Nat} (hy : y < 2 ^ 126) (h : x ≤ y) : isqrt x ≤ isqrt y := by
  have h1 := isqrt_spec x (by omega)
  have h2 := isqrt_spec y hy
  have := sq_lt (a := isqrt x) (b := isqrt y + 1) (by omega)
  omega

theorem isqrt_le {x n : Nat} (hx : x < 2 ^ 126) (h : x < (n + 1) * (n + 1)) : isqrt x ≤ n := by
  have h1 := isqrt_spec x hx
  have := sq_lt (a := isqrt x) (b := n + 1) (by omega)
  omega

theorem isqrt_lt63 {x : Nat} (hx : x < 2 ^ 126) : isqrt x < 2 ^ 63 := by
  have h1 := isqrt_spec x hx
  exact sq_lt (by omega)

theorem isqrt_zero : isqrt 0 = 0 := by
  have := isqrt_le (x := 0) (n := 0) (by decide) (by decide)
  omega

/-- The quotients under the roots. -/
def weirX (b h : Nat) : Nat := b * b * (h * h) * h * 289 / 100000
def orifX (a h : Nat) : Nat := a * a * h * 8829 / 1250000
def weirQ (b h : Nat) : Nat := isqrt (weirX b h)
def orifQ (a h : Nat) : Nat := isqrt (orifX a h)

theorem mul_le3 {a b c d e f : Nat} (h1 : a ≤ d) (h2 : b ≤ e) (h3 : c ≤ f) : a * b * c ≤ d * e * f := Nat.mul_le_mul (Nat.mul_le_mul h1 h2) h3

theorem weirN_mono {b h b' h' : Nat} (hb : b ≤ b') (hh : h ≤ h') : b * b * (h * h) * h * 289 ≤ b' * b' * (h' * h') * h' * 289 :=
  Nat.mul_le_mul (Nat.mul_le_mul (Nat.mul_le_mul (Nat.mul_le_mul hb hb) (Nat.mul_le_mul hh hh)) hh) (Nat.le_refl _)
theorem orifN_mono {b h b' h' : Nat} (hb : b ≤ b') (hh : h ≤ h') : b * b * h * 8829 ≤ b' * b' * h' * 8829 :=
  Nat.mul_le_mul (Nat.mul_le_mul (Nat.mul_le_mul hb hb) hh) (Nat.le_refl _)

theorem weirX_mono {b h b' h' : Nat} (hb : b ≤ b') (hh : h ≤ h') : weirX b h ≤ weirX b' h' := Nat.div_le_div_right (weirN_mono hb hh)
theorem orifX_mono {b h b' h' : Nat} (hb : b ≤ b') (hh : h ≤ h') : orifX b h ≤ orifX b' h' := Nat.div_le_div_right (orifN_mono hb hh)

theorem weirX_lt {b h : Nat} (hb : b ≤ 1048576) (hh : h ≤ 1048576) : weirX b h < 2 ^ 126 :=
  Nat.lt_of_le_of_lt (weirX_mono hb hh) (by decide)
theorem orifX_lt {a h : Nat} (ha : a ≤ 1073741824) (hh : h ≤ 1048576) : orifX a h < 2 ^ 126 :=
  Nat.lt_of_le_of_lt (orifX_mono ha hh) (by decide)

theorem weirQ_mono {b h b' h' : Nat} (hb' : b' ≤ 1048576) (hh' : h' ≤ 1048576) (hb : b ≤ b') (hh : h ≤ h') : weirQ b h ≤ weirQ b' h' :=
  isqrt_mono (weirX_lt hb' hh') (weirX_mono hb hh)
theorem orifQ_mono {b h b' h' : Nat} (hb' : b' ≤ 1073741824) (hh' : h' ≤ 1048576) (hb : b ≤ b') (hh : h ≤ h') : orifQ b h ≤ orifQ b' h' :=
  isqrt_mono (orifX_lt hb' hh') (orifX_mono hb hh)
theorem weirQ_zero (b : Nat) : weirQ b 0 = 0 := by unfold weirQ weirX; simp [isqrt_zero]
theorem orifQ_zero_h (a : Nat) : orifQ a 0 = 0 := by unfold orifQ orifX; simp [isqrt_zero]
theorem orifQ_zero_a (h : Nat) : orifQ 0 h = 0 := by unfold orifQ orifX; simp [isqrt_zero]

/-- The flows are roots. -/
theorem weir_square {b h m : Nat} (hb : b ≤ 10000) (hh : h ≤ 2000) (hm : b * b * h = 1000 * m) :
    weirQ b h * weirQ b h * 100 ≤ m * (h * h * 289) ∧ m * (h * h * 289) < (weirQ b h + 1) * (weirQ b h + 1) * 100 := by
  have hs := isqrt_spec (weirX b h) (weirX_lt (by omega) (by omega))
  have e : weirX b h = m * (h * h * 289) / 100 := by
    unfold weirX
    have : b * b * (h * h) * h * 289 = 1000 * (m * (h * h * 289)) := by
      have : b * b * (h * h) * h * 289 = (b * b * h) * (h * h * 289) := by simp only [Nat.mul_assoc, Nat.mul_comm, Nat.mul_left_comm]
      rw [this, hm]; simp only [Nat.mul_assoc]
    rw [this, show 100000 = 1000 * 100 from rfl, Nat.mul_div_mul_left _ _ (by omega)]
  unfold weirQ
  rw [e] at hs ⊢
  generalize m * (h * h * 289) = X at *
  generalize isqrt (X / 100) = q at *
  have h1 := hs.1
  have h2 := hs.2
  clear hs e hm
  generalize q * q = A at *
  generalize (q + 1) * (q + 1) = B at *
  omega
theorem weirQ_small {b h : Nat} (hb : b ≤ 10000) (hh : h ≤ 2000) : weirQ b h ≤ 67108864 :=
  isqrt_le (weirX_lt (Nat.le_trans hb (by decide)) (Nat.le_trans hh (by decide))) (Nat.lt_of_le_of_lt (weirX_mono hb hh) (by decide +kernel))
theorem orifQ_small {a h : Nat} (ha : a ≤ 1000000) (hh : h ≤ 2000) : orifQ a h ≤ 16777216 :=
  isqrt_le (orifX_lt (Nat.le_trans ha (by decide)) (Nat.le_trans hh (by decide))) (Nat.lt_of_le_of_lt (orifX_mono ha hh) (by decide +kernel))
theorem quo_root {X d q : Nat} (hd : 0 < d) (h1 : q * q ≤ X / d) (h2 : X / d < (q + 1) * (q + 1)) : q * q * d ≤ X ∧ X < (q + 1) * (q + 1) * d :=
  ⟨(Nat.le_div_iff_mul_le hd).1 h1, (Nat.div_lt_iff_lt_mul hd).1 h2⟩
theorem orif_square {a h : Nat} (ha : a ≤ 1000000) (hh : h ≤ 2000) :
    orifQ a h * orifQ a h * 1250000 ≤ a * a * h * 8829 ∧ a * a * h * 8829 < (orifQ a h + 1) * (orifQ a h + 1) * 1250000 := by
  have hs := isqrt_spec (orifX a h) (orifX_lt (Nat.le_trans ha (by decide)) (Nat.le_trans hh (by decide)))
  exact quo_root (by decide) hs.1 hs.2
end Go.Proofs.Ytfalmbcnbomaoaa.Open
