/- the reference's numbers of 128 bits: product, comparison, shift, difference, long division -/
import Derived.Test.YtfalmbcnbomaoaaW1
import Derived.StillTailTactics
namespace Go.Proofs.Ytfalmbcnbomaoaa
open Go.Proofs.Ytfalmbcnbomaoaa.DivLaw Go.Proofs.Ytfalmbcnbomaoaa.Open Go.RowKit
set_option linter.unusedVariables false

theorem agg2_u64 {a b c d : Int} (h : a = c) (k : b = d) : Ending.returned (.agg #[.int .u64 a, .int .u64 b]) = .returned (.agg #[.int .u64 c, .int .u64 d]) := by rw [h, k]

theorem Size_calls (n : Int) (h0 : 0 ≤ n) (h1 : n ≤ 9223372036854775807) (w : World) : Calls Try.prog 69 #[.int .i64 n] w fun e w' => e = .returned (.int .u64 n) ∧ w = w' := by
  go_enter Try.func69, Try.ntmps69
  go_wp2
  go_returns
  exact ⟨rfl, rfl⟩

theorem mul_lo (x y : Nat) (hx : x < 18446744073709551616) (hy : y < 18446744073709551616) :
    x * y % 18446744073709551616 = ((x / 4294967296 * (y % 4294967296) + x % 4294967296 * (y % 4294967296) / 4294967296) % 4294967296 + x % 4294967296 * (y / 4294967296)) % 4294967296 * 4294967296 + x % 4294967296 * (y % 4294967296) % 4294967296 := by
  have e : x * y = (x / 4294967296 * (y / 4294967296)) * 18446744073709551616 + (x / 4294967296 * (y % 4294967296) + x % 4294967296 * (y / 4294967296)) * 4294967296 + x % 4294967296 * (y % 4294967296) := by
    have h1 := Nat.div_add_mod x 4294967296
    have h2 := Nat.div_add_mod y 4294967296
    generalize x / 4294967296 = a at *
    generalize x % 4294967296 = b at *
    generalize y / 4294967296 = c at *
    generalize y % 4294967296 = d at *
    rw [← h1, ← h2]
    rw [Nat.add_mul, Nat.mul_add, Nat.mul_add, Nat.add_mul]
    rw [show 4294967296 * a * (4294967296 * c) = a * c * 18446744073709551616 from by
      rw [Nat.mul_assoc, Nat.mul_left_comm a, ← Nat.mul_assoc, Nat.mul_comm]]
    rw [show 4294967296 * a * d = a * d * 4294967296 from by rw [Nat.mul_assoc, Nat.mul_comm]]
    rw [show b * (4294967296 * c) = b * c * 4294967296 from by rw [Nat.mul_left_comm, Nat.mul_comm]]
    omega
  rw [e]
  generalize x / 4294967296 * (y / 4294967296) = A
  generalize x / 4294967296 * (y % 4294967296) = B
  generalize x % 4294967296 * (y / 4294967296) = C
  generalize x % 4294967296 * (y % 4294967296) = D
  omega

set_option maxHeartbeats 1000000 in
theorem Mul_walk (x y a1 a0 b1 b0 p p1 p0 q m1 m0 r o1 o0 s : Nat) (ha1 : (x : Int) / 4294967296 = (a1 : Int)) (ha0 : bits .and .u64 (x : Int) 4294967295 = (a0 : Int)) (hb1 : (y : Int) / 4294967296 = (b1 : Int)) (hb0 : bits .and .u64 (y : Int) 4294967295 = (b0 : Int))
    (hp : (a0 : Int) * (b0 : Int) = (p : Int)) (hpl : (p : Int) ≤ 18446744073709551615) (hp1 : (p : Int) / 4294967296 = (p1 : Int)) (hp0 : bits .and .u64 (p : Int) 4294967295 = (p0 : Int)) (hq : (a1 : Int) * (b0 : Int) = (q : Int))
    (hm : (q : Int) + (p1 : Int) ≤ 18446744073709551615) (hm1 : ((q : Int) + (p1 : Int)) / 4294967296 = (m1 : Int)) (hm0 : bits .and .u64 ((q : Int) + (p1 : Int)) 4294967295 = (m0 : Int)) (hr : (a0 : Int) * (b1 : Int) = (r : Int))
    (ho : (r : Int) + (m0 : Int) ≤ 18446744073709551615) (ho1 : ((r : Int) + (m0 : Int)) / 4294967296 = (o1 : Int)) (ho0 : IntKind.u64.wrap (((r : Int) + (m0 : Int)) * 4294967296) = (o0 : Int)) (hs : (a1 : Int) * (b1 : Int) = (s : Int))
    (hS : (s : Int) + (m1 : Int) + (o1 : Int) ≤ 18446744073709551615) (hL : (o0 : Int) + (p0 : Int) ≤ 18446744073709551615) (w : World) :
    Calls Try.prog 68 #[.int .u64 x, .int .u64 y] w fun e w' => e = .returned (.agg #[.int .u64 ((s : Int) + (m1 : Int) + (o1 : Int)), .int .u64 ((o0 : Int) + (p0 : Int))]) ∧ Below w.heap.size w w' := by
  go_enter Try.func68, Try.ntmps68
  go_wp2
  go_returns
  exact ⟨rfl, by go_grown⟩

theorem Mul_calls (x y : Nat) (hx : x < 18446744073709551616) (hy : y < 18446744073709551616) (w : World) :
    Calls Try.prog 68 #[.int .u64 x, .int .u64 y] w fun e w' => e = .returned (.agg #[.int .u64 (hiw (x * y) : Nat), .int .u64 (low (x * y) : Nat)]) ∧ Below w.heap.size w w' := by
  unfold hiw low
  obtain ⟨bd, bt, bw, hhi⟩ := Lib.mul64_hi x y hx hy
  have bc := Lib.half_mul_le (a := x % 4294967296) (b := y / 4294967296) (by omega) (by omega)
  have hlo := mul_lo x y hx hy
  have hl : x * y / 18446744073709551616 < 18446744073709551616 := by
    rw [Nat.div_lt_iff_lt_mul (by omega)]
    exact Nat.mul_lt_mul_of_lt_of_lt hx hy
  rw [← hhi] at hl ⊢
  rw [hlo]
  have e1 := Mul64.maskN x hx
  have e2 := Mul64.maskN y hy
  have e3 := Mul64.maskN _ bd
  have e4 := Mul64.maskN _ bt
  generalize hS : x / 4294967296 * (y / 4294967296) = S at *
  generalize hP : x % 4294967296 * (y % 4294967296) = P at *
  generalize hQ : x / 4294967296 * (y % 4294967296) = Q at *
  generalize hR : x % 4294967296 * (y / 4294967296) = R at *
  have f1 : (x : Int) / 4294967296 = ((x / 4294967296 : Nat) : Int) := Mul64.divN x
  have f2 : (y : Int) / 4294967296 = ((y / 4294967296 : Nat) : Int) := Mul64.divN y
  have f3 : ((x % 4294967296 : Nat) : Int) * ((y % 4294967296 : Nat) : Int) = (P : Int) := by rw [← Int.natCast_mul, hP]
  have f4 : ((x / 4294967296 : Nat) : Int) * ((y % 4294967296 : Nat) : Int) = (Q : Int) := by rw [← Int.natCast_mul, hQ]
  have f5 : ((x % 4294967296 : Nat) : Int) * ((y / 4294967296 : Nat) : Int) = (R : Int) := by rw [← Int.natCast_mul, hR]
  have f6 : ((x / 4294967296 : Nat) : Int) * ((y / 4294967296 : Nat) : Int) = (S : Int) := by rw [← Int.natCast_mul, hS]
  rw [Int.natCast_add Q] at e4
  refine (Mul_walk x y _ _ _ _ P (P / 4294967296) (P % 4294967296) Q ((Q + P / 4294967296) / 4294967296) ((Q + P / 4294967296) % 4294967296) R (((Q + P / 4294967296) % 4294967296 + R) / 4294967296)
    (((Q + P / 4294967296) % 4294967296 + R) % 4294967296 * 4294967296) S f1 e1 f2 e2 f3 (by omega) (Mul64.divN P) e3 f4 (by omega) (by omega) e4 f5 (by omega) (by omega) ?_ f6 (by omega) (by omega) w).mono ?_
  · rw [IntKind.wrap_u64]; omega
  · rintro e w' ⟨rfl, hb⟩
    exact ⟨agg2_u64 (by omega) (by omega), hb⟩

theorem Less_walk (ah al bh bl : Nat) (r : Bool) (hr : r = decide (ah < bh ∨ ah = bh ∧ al < bl)) (w : World) :
    Calls Try.prog 70 #[.agg #[.int .u64 ah, .int .u64 al], .agg #[.int .u64 bh, .int .u64 bl]] w fun e w' => e = .returned (.bool r) ∧ Below w.heap.size w w' := by
  by_cases c1 : (ah : Int) < (bh : Int)
  · have hr' : r = true := by rw [hr, decide_eq_true_eq]; omega
    subst hr'
    clear hr
    go_enter Try.func70, Try.ntmps70
    go_wp2
    go_returns
    exact ⟨rfl, by go_grown⟩
  · by_cases c2 : (ah : Int) = (bh : Int)
    · obtain rfl : ah = bh := by omega
      clear c1 c2
      by_cases c3 : (al : Int) < (bl : Int)
      · have hr' : r = true := by rw [hr, decide_eq_true_eq]; omega
        subst hr'
        clear hr
        go_enter Try.func70, Try.ntmps70
        go_wp2
        go_returns
        exact ⟨rfl, by go_grown⟩
      · have hr' : r = false := by rw [hr, decide_eq_false_iff_not]; omega
        subst hr'
        clear hr
        go_enter Try.func70, Try.ntmps70
        go_wp2
        go_returns
        exact ⟨rfl, by go_grown⟩
    · have hr' : r = false := by rw [hr, decide_eq_false_iff_not]; omega
      have c2' : ((ah : Int) == (bh : Int)) = false := by rw [beq_eq_false_iff_ne]; exact c2
      subst hr'
      clear hr c2
      go_enter Try.func70, Try.ntmps70
      go_wp2
      go_returns
      exact ⟨rfl, by go_grown⟩

theorem Less_calls (A B : Nat) (w : World) :
    Calls Try.prog 70 #[.agg #[.int .u64 (hiw A : Nat), .int .u64 (low A : Nat)], .agg #[.int .u64 (hiw B : Nat), .int .u64 (low B : Nat)]] w fun e w' => e = .returned (.bool (decide (A < B))) ∧ Below w.heap.size w w' := by
  refine Less_walk _ _ _ _ _ ?_ w
  rw [decide_eq_decide]
  unfold hiw low
  omega

theorem Shift_walk (ah al bit H K L : Nat) (hH : IntKind.u64.wrap ((ah : Int) * 2) = (H : Int)) (hK : (al : Int) / 9223372036854775808 = (K : Int)) (hL : IntKind.u64.wrap ((al : Int) * 2) = (L : Int)) (h1 : (H : Int) + (K : Int) ≤ 18446744073709551615) (h2 : (L : Int) + (bit : Int) ≤ 18446744073709551615) (w : World) :
    Calls Try.prog 72 #[.agg #[.int .u64 ah, .int .u64 al], .int .u64 bit] w fun e w' => e = .returned (.agg #[.int .u64 ((H : Int) + (K : Int)), .int .u64 ((L : Int) + (bit : Int))]) ∧ Below w.heap.size w w' := by
  go_enter Try.func72, Try.ntmps72
  go_wp2
  go_returns
  exact ⟨rfl, by go_grown⟩
theorem Shift_calls (A bit : Nat) (hA : A < 340282366920938463463374607431768211456) (hb : bit ≤ 1) (w : World) :
    Calls Try.prog 72 #[.agg #[.int .u64 (hiw A : Nat), .int .u64 (low A : Nat)], .int .u64 bit] w fun e w' =>
      e = .returned (.agg #[.int .u64 (hiw ((2 * A + bit) % 340282366920938463463374607431768211456) : Nat), .int .u64 (low ((2 * A + bit) % 340282366920938463463374607431768211456) : Nat)]) ∧ Below w.heap.size w w' := by
  have h1 := low_lt A
  have h2 := hiw_lt hA
  have h3 := hilo A
  refine (Shift_walk (hiw A) (low A) bit (hiw A * 2 % 18446744073709551616) (low A / 9223372036854775808) (low A * 2 % 18446744073709551616) ?_ ?_ ?_ (by omega) (by omega) w).mono ?_
  · rw [IntKind.wrap_u64]; omega
  · omega
  · rw [IntKind.wrap_u64]; omega
  · rintro e w' ⟨rfl, hb⟩
    refine ⟨agg2_u64 ?_ ?_, hb⟩
    · generalize hiw A = x at *
      generalize low A = y at *
      subst h3
      unfold hiw
      omega
    · generalize hiw A = x at *
      generalize low A = y at *
      subst h3
      unfold low
      omega

theorem Minus_walk (ah al bh bl : Nat) (hb : (bh : Int) ≤ (ah : Int)) (ha : (ah : Int) ≤ 18446744073709551615) (hal : (al : Int) ≤ 18446744073709551615) (hbl : (bl : Int) ≤ 18446744073709551615) (hlt : (al : Int) < (bl : Int) → (bh : Int) < (ah : Int)) (H L : Nat)
    (hH : (H : Int) = if (al : Int) < (bl : Int) then (ah : Int) - (bh : Int) - 1 else (ah : Int) - (bh : Int)) (hL : IntKind.u64.wrap ((al : Int) - (bl : Int)) = (L : Int)) (w : World) :
    Calls Try.prog 73 #[.agg #[.int .u64 ah, .int .u64 al], .agg #[.int .u64 bh, .int .u64 bl]] w fun e w' => e = .returned (.agg #[.int .u64 (H : Int), .int .u64 (L : Int)]) ∧ Below w.heap.size w w' := by
  by_cases c : (al : Int) < (bl : Int)
  · have h3 := hlt c
    rw [if_pos c] at hH
    have HH := Lib.hid hH
    clear hlt hH
    go_enter Try.func73, Try.ntmps73
    go_wp2
    go_returns
    exact ⟨agg2_u64 HH.out.symm rfl, by go_grown⟩
  · rw [if_neg c] at hH
    have HH := Lib.hid hH
    clear hlt hH
    go_enter Try.func73, Try.ntmps73
    go_wp2
    go_returns
    exact ⟨agg2_u64 HH.out.symm rfl, by go_grown⟩
theorem Minus_calls (A B : Nat) (hA : A < 340282366920938463463374607431768211456) (hB : B ≤ A) (w : World) :
    Calls Try.prog 73 #[.agg #[.int .u64 (hiw A : Nat), .int .u64 (low A : Nat)], .agg #[.int .u64 (hiw B : Nat), .int .u64 (low B : Nat)]] w fun e w' =>
      e = .returned (.agg #[.int .u64 (hiw (A - B) : Nat), .int .u64 (low (A - B) : Nat)]) ∧ Below w.heap.size w w' := by
  refine Minus_walk _ _ _ _ ?_ ?_ ?_ ?_ ?_ _ _ ?_ ?_ w
  · unfold hiw; omega
  · unfold hiw; omega
  · unfold low; omega
  · unfold low; omega
  · unfold hiw low; omega
  · unfold hiw low; split <;> omega
  · rw [IntKind.wrap_u64]; unfold low; omega

theorem Made_calls (a b : Nat) (w : World) :
    Calls Try.prog 67 #[.agg #[.int .u64 a, .int .u64 b], .bool false] w fun e w' => e = .returned (.agg #[.int .u64 a, .int .u64 b, .bool false]) ∧ Below w.heap.size w w' := by
  go_enter Try.func67, Try.ntmps67
  go_wp2
  go_region
  all_goals (go_wp2; go_returns; exact ⟨rfl, by go_grown⟩)

theorem agg3_u64 {a b c d : Int} (h : a = c) (k : b = d) : Ending.returned (.agg #[.int .u64 a, .int .u64 b, .bool false]) = .returned (.agg #[.int .u64 c, .int .u64 d, .bool false]) := by rw [h, k]

theorem bcell {W w1 : World} (hb : Below W.heap.size W w1) : (∀ b o, b < W.heap.size → w1.cell? ⟨b, o, none⟩ = W.cell? ⟨b, o, none⟩) ∧ (∀ b o, b < W.heap.size → w1.frozen? ⟨b, o, none⟩ = W.frozen? ⟨b, o, none⟩) :=
  ⟨fun b o h => hb.cell (p := ⟨b, o, none⟩) h, fun b o h => hb.frozen (p := ⟨b, o, none⟩) h⟩

theorem OfInt_calls (n : Int) (h0 : 0 ≤ n) (h1 : n ≤ 9223372036854775807) (w : World) :
    Calls Try.prog 60 #[.int .i64 n] w fun e w' => e = .returned (.agg #[.int .u64 (hiw n.toNat : Nat), .int .u64 (low n.toNat : Nat), .bool false]) ∧ Below w.heap.size w w' := by
  have c := fun W => Size_calls n h0 h1 W
  obtain ⟨m, rfl⟩ := Int.eq_ofNat_of_zero_le h0
  have d := fun W => Made_calls 0 m W
  have C := Lib.hid c
  have D := Lib.hid d
  clear c d
  go_enter Try.func60, Try.ntmps60
  go_wp2_with fail
  refine (C.out _).mono ?_
  rintro e w1 ⟨rfl, rfl⟩
  go_wp2_with fail
  refine (D.out _).mono ?_
  rintro e w1 ⟨rfl, hb1⟩
  have hz := hb1.size
  simp only [World.size_alloc] at hz
  have q : ∀ j v, #[Value.int IntKind.u64 0, Value.int IntKind.u64 0, Value.bool false][j]? = some v → w1.cell? ⟨w.heap.size, j, none⟩ = some v := fun j v h => (hb1.cell (p := ⟨w.heap.size, j, none⟩) (by simp)).trans (by rw [World.cell?_alloc_new]; exact h)
  have z : ∀ j, w1.frozen? ⟨w.heap.size, j, none⟩ = false := fun j => (hb1.frozen (p := ⟨w.heap.size, j, none⟩) (by simp)).trans (by simp)
  have q0 := q 0 _ rfl
  have q1 := q 1 _ rfl
  have q2 := q 2 _ rfl
  clear q
  go_wp2_with fail
  refine bodyPost_ret (v := .agg #[.int .u64 0, .int .u64 (m : Int), .bool false]) (by simp [results, Try.results60, go_sem, q0, q1, q2]) rfl ⟨?_, ?_⟩
  · exact agg3_u64 (by unfold hiw; omega) (by unfold low; omega)
  · exact (((((Below.refl _ w).alloc (Nat.le_refl _) _).trans (hb1.mono (by simp))).setCell (Nat.le_refl _) _).setCell (Nat.le_refl _) _).setCell (Nat.le_refl _) _

/-- The long division with k bits to come. -/
structure LongAt (A B k a q r : Nat) : Prop where
  ex : ∃ top rest, A = top * 2 ^ k + rest ∧ rest < 2 ^ k ∧ a = rest * 2 ^ (128 - k) ∧ top = q * B + r
  hr : r < B
  hk : k ≤ 128

theorem long_start {A B : Nat} (hA : A < 2 ^ 128) (hB : 0 < B) : LongAt A B 128 A 0 0 :=
  ⟨⟨0, A, by simp, hA, by simp, by simp⟩, hB, Nat.le_refl _⟩
theorem long_end {A B a q r : Nat} (h : LongAt A B 0 a q r) (hB : 0 < B) : q = A / B ∧ r = A % B := by
  obtain ⟨⟨top, rest, h1, h2, h3, h4⟩, h5, h6⟩ := h
  have h0 : rest = 0 := by simpa using h2
  subst h0
  have e : A = B * q + r := by rw [h1, h4, Nat.mul_comm q]; simp
  have := Nat.div_mod_unique hB (a := A) (c := r) (d := q)
  have u := this.2 ⟨by omega, h5⟩
  exact ⟨u.1.symm, u.2.symm⟩
theorem long_next {A B j a q r : Nat} (h : LongAt A B (j + 1) a q r) (hA : A < 2 ^ 128) :
    a < 2 ^ 128 ∧ a / 2 ^ 127 ≤ 1 ∧ q ≤ A ∧ 2 * q + 1 ≤ A + 1 ∧
      (B ≤ 2 * r + a / 2 ^ 127 → LongAt A B j (2 * a % 2 ^ 128) (2 * q + 1) (2 * r + a / 2 ^ 127 - B) ∧ 2 * q + 1 ≤ A) ∧
      (2 * r + a / 2 ^ 127 < B → LongAt A B j (2 * a % 2 ^ 128) (2 * q) (2 * r + a / 2 ^ 127)) := by
  obtain ⟨⟨top, rest, h1, h2, h3, h4⟩, h5, h6⟩ := h
  have hp := Nat.two_pow_pos j
  have hB : 0 < B := by omega
  have p1 : 2 ^ 128 = 2 ^ (128 - j) * 2 ^ j := by rw [← Nat.pow_add]; congr 1; omega
  have p2 : 2 ^ 127 = 2 ^ (128 - (j + 1)) * 2 ^ j := by rw [← Nat.pow_add]; congr 1; omega
  have p3 : 2 ^ (128 - j) = 2 * 2 ^ (128 - (j + 1)) := by rw [Nat.mul_comm, ← Nat.pow_succ]; congr 1; omega
  have hrest : rest < 2 * 2 ^ j := by rw [Nat.pow_succ] at h2; omega
  have hbit : a / 2 ^ 127 = rest / 2 ^ j := by
    rw [h3, p2, Nat.mul_comm rest, Nat.mul_div_mul_left _ _ (Nat.two_pow_pos _)]
  have hb1 : rest / 2 ^ j ≤ 1 := by
    have : rest / 2 ^ j < 2 := (Nat.div_lt_iff_lt_mul hp).2 hrest
    omega
  have hm := Nat.div_add_mod rest (2 ^ j)
  have hml := Nat.mod_lt rest hp
  have hal : a < 2 ^ 128 := by
    rw [h3, p1, p3, Nat.mul_assoc, Nat.mul_comm rest, Nat.mul_left_comm]
    exact Nat.mul_lt_mul_of_pos_left hrest (Nat.two_pow_pos _)
  have hnew : 2 * a % 2 ^ 128 = rest % 2 ^ j * 2 ^ (128 - j) := by
    have e : 2 * a = 2 ^ 128 * (rest / 2 ^ j) + rest % 2 ^ j * 2 ^ (128 - j) := by
      rw [h3, Nat.mul_left_comm, ← p3, p1]
      conv => lhs; rw [← hm]
      rw [Nat.add_mul, Nat.mul_comm (2 ^ j), Nat.mul_assoc, Nat.mul_comm (rest / 2 ^ j), Nat.mul_comm (2 ^ j)]
    rw [e, Nat.mul_add_mod]
    refine Nat.mod_eq_of_lt ?_
    rw [p1, Nat.mul_comm (2 ^ (128 - j))]
    exact Nat.mul_lt_mul_of_pos_right hml (Nat.two_pow_pos _)
  have htop : A = (2 * top + rest / 2 ^ j) * 2 ^ j + rest % 2 ^ j := by
    rw [h1, Nat.pow_succ, Nat.add_mul, Nat.add_assoc, Nat.mul_comm (rest / 2 ^ j), hm, Nat.mul_comm 2 top, Nat.mul_assoc, Nat.mul_comm 2]
  have ls := long_step q r B (rest / 2 ^ j) top hb1 h4 h5
  rw [hbit]
  generalize rest / 2 ^ j = bit at *
  generalize rest % 2 ^ j = rest' at *
  have hqt : q ≤ top := by rw [h4]; have := Nat.le_mul_of_pos_right q hB; omega
  have htA : 2 * top + bit ≤ A := by rw [htop]; have := Nat.le_mul_of_pos_right (2 * top + bit) hp; omega
  refine ⟨hal, hb1, by omega, by omega, fun hc => ⟨⟨⟨2 * top + bit, rest', htop, hml, hnew, (ls.1 hc).1⟩, (ls.1 hc).2, by omega⟩, ?_⟩, fun hc => ⟨⟨2 * top + bit, rest', htop, hml, hnew, ls.2 hc⟩, hc, by omega⟩⟩
  have e1 := (ls.1 hc).1
  have := Nat.le_mul_of_pos_right (2 * q + 1) hB
  omega

theorem Shift_w (A : Nat) (bit : Int) (hA : A < 340282366920938463463374607431768211456) (hb0 : 0 ≤ bit) (hb : bit ≤ 1) (T : Nat) (hT : T = (2 * A + bit.toNat) % 340282366920938463463374607431768211456) (w : World) :
    Calls Try.prog 72 #[.agg #[.int .u64 (hiw A : Nat), .int .u64 (low A : Nat)], .int .u64 bit] w fun e w' => e = .returned (.agg #[.int .u64 (hiw T : Nat), .int .u64 (low T : Nat)]) ∧ Below w.heap.size w w' := by
  obtain ⟨n, rfl⟩ := Int.eq_ofNat_of_zero_le hb0
  subst hT
  exact Shift_calls A n hA (by omega) w
theorem Less_yes (A B : Nat) (h : A < B) (w : World) :
    Calls Try.prog 70 #[.agg #[.int .u64 (hiw A : Nat), .int .u64 (low A : Nat)], .agg #[.int .u64 (hiw B : Nat), .int .u64 (low B : Nat)]] w fun e w' => e = .returned (.bool true) ∧ Below w.heap.size w w' := by
  refine (Less_calls A B w).mono ?_
  rintro e w' ⟨rfl, hb⟩
  exact ⟨by rw [decide_eq_true h], hb⟩
theorem Less_no (A B : Nat) (h : ¬ A < B) (w : World) :
    Calls Try.prog 70 #[.agg #[.int .u64 (hiw A : Nat), .int .u64 (low A : Nat)], .agg #[.int .u64 (hiw B : Nat), .int .u64 (low B : Nat)]] w fun e w' => e = .returned (.bool false) ∧ Below w.heap.size w w' := by
  refine (Less_calls A B w).mono ?_
  rintro e w' ⟨rfl, hb⟩
  exact ⟨by rw [decide_eq_false h], hb⟩

/-- Block g holds the two words of X, and may be written. -/
structure At2 (w : World) (g X : Nat) : Prop where
  c0 : w.cell? ⟨g, 0, none⟩ = some (.int .u64 (hiw X : Nat))
  c1 : w.cell? ⟨g, 1, none⟩ = some (.int .u64 (low X : Nat))
  z : ∀ j, w.frozen? ⟨g, j, none⟩ = false
  lt : g < w.heap.size

theorem At2.below {W w1 : World} {g X : Nat} (h : At2 W g X) (hb : Below W.heap.size W w1) : At2 w1 g X :=
  ⟨(hb.cell (p := ⟨g, 0, none⟩) h.lt).trans h.c0, (hb.cell (p := ⟨g, 1, none⟩) h.lt).trans h.c1, fun j => (hb.frozen (p := ⟨g, j, none⟩) h.lt).trans (h.z j), Nat.lt_of_lt_of_le h.lt hb.size⟩
theorem At2.far1 {w : World} {g g' X : Nat} (h : At2 w g X) (hne : g ≠ g') (i : Nat) (u : Value) : At2 (w.setCell ⟨g', i, none⟩ u) g X :=
  ⟨by rw [World.cell?_setCell_other w ⟨g', i, none⟩ _ u (by intro e; injection e; omega)]; exact h.c0, by rw [World.cell?_setCell_other w ⟨g', i, none⟩ _ u (by intro e; injection e; omega)]; exact h.c1, fun j => by rw [World.frozen?_setCell]; exact h.z j, by rw [World.size_setCell]; exact h.lt⟩
theorem At2.far2 {w : World} {g g' X : Nat} (h : At2 w g X) (hne : g ≠ g') (u v : Value) : At2 ((w.setCell ⟨g', 0, none⟩ u).setCell ⟨g', 1, none⟩ v) g X := (h.far1 hne 0 u).far1 hne 1 v
theorem At2.set2 {w : World} {g X : Nat} (h : At2 w g X) (Y : Nat) : At2 ((w.setCell ⟨g, 0, none⟩ (.int .u64 (hiw Y : Nat))).setCell ⟨g, 1, none⟩ (.int .u64 (low Y : Nat))) g Y := by
  obtain ⟨h0, h1, hz, hl⟩ := h
  refine ⟨?_, ?_, fun j => ?_, ?_⟩
  · simp [go_sem, h0]
  · simp [go_sem, h1]
  · simp [go_sem, hz]
  · simp [hl]

theorem At2.set1 {w : World} {g X Y : Nat} (h : At2 w g X) (hh : hiw X = hiw Y) : At2 (w.setCell ⟨g, 1, none⟩ (.int .u64 (low Y : Nat))) g Y := by
  obtain ⟨h0, h1, hz, hl⟩ := h
  refine ⟨?_, ?_, fun j => ?_, ?_⟩
  · rw [← hh]; simp [go_sem, h0]
  · simp [go_sem, h1]
  · simp [go_sem, hz]
  · simp [hl]
theorem At2.new_ (w : World) (t : TypeId) (X : Nat) : At2 (w.alloc (.cells #[.int .u64 (hiw X : Nat), .int .u64 (low X : Nat)] t)) w.heap.size X :=
  ⟨by rw [World.cell?_alloc_new]; rfl, by rw [World.cell?_alloc_new]; rfl, fun j => by simp, by simp⟩
theorem At2.alloc {w : World} {g X : Nat} (h : At2 w g X) (o : Obj) : At2 (w.alloc o) g X :=
  h.below ((Below.refl _ _).alloc (Nat.le_refl _) o)
theorem At2.at {w : World} {g g' X : Nat} (h : At2 w g X) (e : g = g') : At2 w g' X := e ▸ h

set_option maxHeartbeats 4000000 in
theorem Div_calls (A B : Nat) (hA : A < 340282366920938463463374607431768211456) (hB : 0 < B) (hB' : B < 170141183460469231731687303715884105728) (w : World) :
    Calls Try.prog 65 #[.agg #[.int .u64 (hiw A : Nat), .int .u64 (low A : Nat)], .agg #[.int .u64 (hiw B : Nat), .int .u64 (low B : Nat)]] w fun e w' =>
      e = .returned (.tuple #[.agg #[.int .u64 (hiw (A / B) : Nat), .int .u64 (low (A / B) : Nat)], .agg #[.int .u64 (hiw (A % B) : Nat), .int .u64 (low (A % B) : Nat)]]) ∧ Below w.heap.size w w' := by
  have HA := Lib.hid hA
  have HB := Lib.hid hB
  have HB' := Lib.hid hB'
  clear hA hB hB'
  go_enter Try.func65, Try.ntmps65
  go_wp2_with fail
  go_loopw [8] (fun s8 wr => ∃ k i a q r : Nat, s8 = .int .i64 i ∧ Hid (i + k = 128) ∧ Hid (LongAt A B k a q r) ∧ Hid (At2 wr w.heap.size a) ∧ Hid (At2 wr (w.heap.size + 1) B) ∧ Hid (At2 wr (w.heap.size + 1 + 1 + 1 + 1) q) ∧ Hid (At2 wr (w.heap.size + 1 + 1 + 1 + 1 + 1) r) ∧ Hid (At2 wr (w.heap.size + 1 + 1) 0) ∧ Hid (At2 wr (w.heap.size + 1 + 1 + 1) 0) ∧ Below w.heap.size w wr) (fun s8 _ => 128 - (intOf s8).toNat)
  case atStart =>
    exact ⟨128, 0, A, 0, 0, rfl, Lib.hid rfl, Lib.hid (long_start HA.out HB.out), Lib.hid (((((At2.new_ w 74 A).alloc _).alloc _).alloc _).alloc _ |>.alloc _),
      Lib.hid (At2.at (((((At2.new_ _ 74 B).alloc _).alloc _).alloc _).alloc _) (by simp)), Lib.hid (At2.at ((At2.new_ _ 74 0).alloc _) (by simp)), Lib.hid (At2.at (At2.new_ _ 74 0) (by simp)),
      Lib.hid (At2.at ((((At2.new_ _ 74 0).alloc _).alloc _).alloc _) (by simp)), Lib.hid (At2.at (((At2.new_ _ 74 0).alloc _).alloc _) (by simp)), by go_grown⟩
  case round =>
    obtain ⟨k, i, a, q, r, rfl, hk, hL, Aa, Ab, Aq, Ar, A2, A3, hbw⟩ := hrel
    rcases k with _ | k
    · have hi : ¬ (i : Int) < 128 := by have := hk.out; omega
      obtain ⟨hq, hr⟩ := long_end hL.out HB.out
      have hQ := Lib.hid hq
      have hR := Lib.hid hr
      clear hq hr hL hk Aa Ab
      obtain ⟨cq0, cq1, czq, lq⟩ := Aq.out
      obtain ⟨cr0, cr1, czr, lr⟩ := Ar.out
      obtain ⟨y2, B2⟩ : ∃ y, At2 wr (w.heap.size + 1 + 1) y := ⟨0, A2.out⟩
      obtain ⟨y3, B3⟩ : ∃ y, At2 wr (w.heap.size + 1 + 1 + 1) y := ⟨0, A3.out⟩
      obtain ⟨c20, c21, cz2, l2⟩ := B2
      obtain ⟨c30, c31, cz3, l3⟩ := B3
      clear A2 A3 Aq Ar
      clear HA HB HB'
      go_wp2_with fail
      go_region
      all_goals (go_wp2; refine bodyPost_ret (v := .tuple #[.agg #[.int .u64 (hiw q : Nat), .int .u64 (low q : Nat)], .agg #[.int .u64 (hiw r : Nat), .int .u64 (low r : Nat)]]) (by simp [results, Try.results65, go_sem, c20, c21, c30, c31]) rfl ⟨by rw [← hQ.out, ← hR.out], ?_⟩)
      all_goals (repeat (first | exact hbw | refine Below.setCell ?_ (by simp; try omega) _ | refine Below.drew ?_))
    · obtain ⟨ca0, ca1, cza, la⟩ := Aa.out
      obtain ⟨cb0, cb1, czb, lb⟩ := Ab.out
      obtain ⟨cq0, cq1, czq, lq⟩ := Aq.out
      obtain ⟨cr0, cr1, czr, lr⟩ := Ar.out
      obtain ⟨l1, l2, l3, l4, l5, l6⟩ := long_next hL.out HA.out
      have l0 := hL.out.hr
      obtain ⟨bit, hbit⟩ : ∃ b, b = a / 2 ^ 127 := ⟨_, rfl⟩
      rw [← hbit] at l2 l5 l6
      have e1 : ((hiw a : Nat) : Int) / 9223372036854775808 = (bit : Int) := by rw [hbit]; unfold hiw; omega
      have e2 : ((hiw r : Nat) : Int) / 9223372036854775808 = 0 := by have := HB'.out; unfold hiw; omega
      have hi : (i : Int) < 128 := by have := hk.out; omega
      have hbb : (bit : Int) ≤ 1 := by omega
      have s1 := fun W => Shift_w a 0 l1 (by omega) (by omega) (2 * a % 2 ^ 128) rfl W
      have s2 := fun W => Shift_w r bit (by have := HB'.out; omega) (by omega) (by omega) (2 * r + bit) (by have := HB'.out; rw [Int.toNat_natCast]; omega) W
      have s3 := fun W => Shift_w q 0 (by have := HA.out; omega) (by omega) (by omega) (2 * q) (by have := HA.out; omega) W
      have e4 : ((low (2 * q) : Nat) : Int) + 1 = ((low (2 * q + 1) : Nat) : Int) := by unfold low; omega
      have e4b : ((low (2 * q) : Nat) : Int) ≤ 18446744073709551614 := by unfold low; omega
      have e5 : hiw (2 * q) = hiw (2 * q + 1) := by unfold hiw; omega
      obtain ⟨a', ha'⟩ : ∃ a', a' = 2 * a % 2 ^ 128 := ⟨_, rfl⟩
      rw [← ha'] at l5 l6 s1
      obtain ⟨r', hr'⟩ : ∃ r', r' = 2 * r + bit := ⟨_, rfl⟩
      obtain ⟨q', hq'⟩ : ∃ r', r' = 2 * q := ⟨_, rfl⟩
      rw [← hr'] at l5 l6 s2
      rw [← hq'] at l5 l6 s3 e4 e4b e5
      have hrl : r' < 340282366920938463463374607431768211456 := by have := HB'.out; omega
      have S1 := Lib.hid s1
      have S2 := Lib.hid s2
      have S3 := Lib.hid s3
      have L5 := Lib.hid l5
      have L6 := Lib.hid l6
      have HR := Lib.hid hrl
      have E5 := Lib.hid e5
      clear ha' s1 s2 s3 l5 l6 hr' hq' hbit hL l0 l1 l2 l3 l4 hrl e5
      go_wp2_with fail
      refine (S1.out _).mono ?_
      rintro e w1 ⟨rfl, hb1⟩
      replace Aa := Lib.hid (Aa.out.below hb1)
      replace Ab := Lib.hid (Ab.out.below hb1)
      replace Aq := Lib.hid (Aq.out.below hb1)
      replace Ar := Lib.hid (Ar.out.below hb1)
      replace A2 := Lib.hid (A2.out.below hb1)
      replace A3 := Lib.hid (A3.out.below hb1)
      replace hbw := hbw.trans (hb1.mono (by omega))
      clear hb1
      clear ca0 ca1 cza la cb0 cb1 czb lb cq0 cq1 czq lq cr0 cr1 czr lr
      obtain ⟨ca0, ca1, cza, la⟩ := Aa.out
      obtain ⟨cb0, cb1, czb, lb⟩ := Ab.out
      obtain ⟨cq0, cq1, czq, lq⟩ := Aq.out
      obtain ⟨cr0, cr1, czr, lr⟩ := Ar.out
      go_wp2_with fail
      refine (S2.out _).mono ?_
      rintro e w2 ⟨rfl, hb2⟩
      replace Aa := Lib.hid ((Aa.out.set2 a').below hb2)
      replace Ab := Lib.hid ((Ab.out.far2 (by omega) _ _).below hb2)
      replace Aq := Lib.hid ((Aq.out.far2 (by omega) _ _).below hb2)
      replace Ar := Lib.hid ((Ar.out.far2 (by omega) _ _).below hb2)
      replace A2 := Lib.hid ((A2.out.far2 (by omega) _ _).below hb2)
      replace A3 := Lib.hid ((A3.out.far2 (by omega) _ _).below hb2)
      replace hbw := ((hbw.setCell (p := ⟨w.heap.size, 0, none⟩) (by simp; try omega) _).setCell (p := ⟨w.heap.size, 1, none⟩) (by simp; try omega) _).trans (hb2.mono (by simp only [World.size_setCell]; omega))
      clear hb2
      clear ca0 ca1 cza la cb0 cb1 czb lb cq0 cq1 czq lq cr0 cr1 czr lr
      obtain ⟨ca0, ca1, cza, la⟩ := Aa.out
      obtain ⟨cb0, cb1, czb, lb⟩ := Ab.out
      obtain ⟨cq0, cq1, czq, lq⟩ := Aq.out
      obtain ⟨cr0, cr1, czr, lr⟩ := Ar.out
      go_wp2_with fail
      refine (S3.out _).mono ?_
      rintro e w3 ⟨rfl, hb3⟩
      replace Aa := Lib.hid ((Aa.out.far2 (by omega) _ _).below hb3)
      replace Ab := Lib.hid ((Ab.out.far2 (by omega) _ _).below hb3)
      replace Aq := Lib.hid ((Aq.out.far2 (by omega) _ _).below hb3)
      replace Ar := Lib.hid ((Ar.out.set2 r').below hb3)
      replace A2 := Lib.hid ((A2.out.far2 (by omega) _ _).below hb3)
      replace A3 := Lib.hid ((A3.out.far2 (by omega) _ _).below hb3)
      replace hbw := ((hbw.setCell (p := ⟨(w.heap.size + 1 + 1 + 1 + 1 + 1), 0, none⟩) (by simp; try omega) _).setCell (p := ⟨(w.heap.size + 1 + 1 + 1 + 1 + 1), 1, none⟩) (by simp; try omega) _).trans (hb3.mono (by simp only [World.size_setCell]; omega))
      clear hb3
      clear ca0 ca1 cza la cb0 cb1 czb lb cq0 cq1 czq lq cr0 cr1 czr lr
      obtain ⟨ca0, ca1, cza, la⟩ := Aa.out
      obtain ⟨cb0, cb1, czb, lb⟩ := Ab.out
      obtain ⟨cq0, cq1, czq, lq⟩ := Aq.out
      obtain ⟨cr0, cr1, czr, lr⟩ := Ar.out
      go_wp2_with fail
      by_cases c : r' < B
      · refine (Less_yes _ _ c _).mono ?_
        rintro e w4 ⟨rfl, hb4⟩
        replace Aa := Lib.hid ((Aa.out.far2 (by omega) _ _).below hb4)
        replace Ab := Lib.hid ((Ab.out.far2 (by omega) _ _).below hb4)
        replace Aq := Lib.hid ((Aq.out.set2 q').below hb4)
        replace Ar := Lib.hid ((Ar.out.far2 (by omega) _ _).below hb4)
        replace A2 := Lib.hid ((A2.out.far2 (by omega) _ _).below hb4)
        replace A3 := Lib.hid ((A3.out.far2 (by omega) _ _).below hb4)
        replace hbw := ((hbw.setCell (p := ⟨(w.heap.size + 1 + 1 + 1 + 1), 0, none⟩) (by simp; try omega) _).setCell (p := ⟨(w.heap.size + 1 + 1 + 1 + 1), 1, none⟩) (by simp; try omega) _).trans (hb4.mono (by simp only [World.size_setCell]; omega))
        clear hb4
        clear ca0 ca1 cza la cb0 cb1 czb lb cq0 cq1 czq lq cr0 cr1 czr lr
        obtain ⟨ca0, ca1, cza, la⟩ := Aa.out
        obtain ⟨cb0, cb1, czb, lb⟩ := Ab.out
        obtain ⟨cq0, cq1, czq, lq⟩ := Aq.out
        obtain ⟨cr0, cr1, czr, lr⟩ := Ar.out
        have hL := Lib.hid (L6.out c)
        clear c
        go_wp2_with fail
        go_roundw
        case rel => exact ⟨k, i + 1, a', q', r', by go_num, Lib.hid (by have := hk.out; omega), hL, Aa, Ab, Aq, Ar, A2, A3, hbw⟩
        case measure => simp [intOf]; omega
      · refine (Less_no _ _ c _).mono ?_
        rintro e w4 ⟨rfl, hb4⟩
        replace Aa := Lib.hid ((Aa.out.far2 (by omega) _ _).below hb4)
        replace Ab := Lib.hid ((Ab.out.far2 (by omega) _ _).below hb4)
        replace Aq := Lib.hid ((Aq.out.set2 q').below hb4)
        replace Ar := Lib.hid ((Ar.out.far2 (by omega) _ _).below hb4)
        replace A2 := Lib.hid ((A2.out.far2 (by omega) _ _).below hb4)
        replace A3 := Lib.hid ((A3.out.far2 (by omega) _ _).below hb4)
        replace hbw := ((hbw.setCell (p := ⟨(w.heap.size + 1 + 1 + 1 + 1), 0, none⟩) (by simp; try omega) _).setCell (p := ⟨(w.heap.size + 1 + 1 + 1 + 1), 1, none⟩) (by simp; try omega) _).trans (hb4.mono (by simp only [World.size_setCell]; omega))
        clear hb4
        clear ca0 ca1 cza la cb0 cb1 czb lb cq0 cq1 czq lq cr0 cr1 czr lr
        obtain ⟨ca0, ca1, cza, la⟩ := Aa.out
        obtain ⟨cb0, cb1, czb, lb⟩ := Ab.out
        obtain ⟨cq0, cq1, czq, lq⟩ := Aq.out
        obtain ⟨cr0, cr1, czr, lr⟩ := Ar.out
        have hM := Lib.hid (fun W => Minus_calls r' B HR.out (by omega) W)
        have hL := Lib.hid (L5.out (by omega))
        clear c
        go_wp2_with fail
        refine (hM.out _).mono ?_
        rintro e w5 ⟨rfl, hb5⟩
        replace Aa := Lib.hid (Aa.out.below hb5)
        replace Ab := Lib.hid (Ab.out.below hb5)
        replace Aq := Lib.hid (Aq.out.below hb5)
        replace Ar := Lib.hid (Ar.out.below hb5)
        replace A2 := Lib.hid (A2.out.below hb5)
        replace A3 := Lib.hid (A3.out.below hb5)
        replace hbw := hbw.trans (hb5.mono (by omega))
        clear hb5
        clear ca0 ca1 cza la cb0 cb1 czb lb cq0 cq1 czq lq cr0 cr1 czr lr
        obtain ⟨ca0, ca1, cza, la⟩ := Aa.out
        obtain ⟨cb0, cb1, czb, lb⟩ := Ab.out
        obtain ⟨cq0, cq1, czq, lq⟩ := Aq.out
        obtain ⟨cr0, cr1, czr, lr⟩ := Ar.out
        go_wp2_with fail
        go_roundw
        case rel => exact ⟨k, i + 1, a', q' + 1, r' - B, by go_num, Lib.hid (by have := hk.out; omega), Lib.hid hL.out.1, Lib.hid ((Aa.out.far2 (by omega) _ _).far1 (by omega) _ _), Lib.hid ((Ab.out.far2 (by omega) _ _).far1 (by omega) _ _), Lib.hid ((Aq.out.far2 (by omega) _ _).set1 E5.out), Lib.hid ((Ar.out.set2 _).far1 (by omega) _ _), Lib.hid ((A2.out.far2 (by omega) _ _).far1 (by omega) _ _), Lib.hid ((A3.out.far2 (by omega) _ _).far1 (by omega) _ _),
          ((hbw.setCell (by simp; try omega) _).setCell (by simp; try omega) _).setCell (by simp; try omega) _⟩
        case measure => simp [intOf]; omega
end Go.Proofs.Ytfalmbcnbomaoaa
