/- the program's numbers of 128 bits, its root, and the flows over weirs and through openings -/
import Derived.Test.YtfalmbcnbomaoaaBitsDiv
import Derived.Handy
import Derived.Test.YtfalmbcnbomaoaaOpenLaw
namespace Go.Proofs.Ytfalmbcnbomaoaa
open Go.Proofs.Ytfalmbcnbomaoaa.Open Go.RowKit
set_option linter.unusedVariables false

theorem below_drewN {B : Nat} {a w : World} (h : Below B a w) (n : Nat) : Below B a (w.drewN n) := ⟨h.os, h.tape, h.output, h.size, h.block⟩

theorem hi_word (A B : Nat) (h : B < 18446744073709551616) : (A * 18446744073709551616 + B) / 18446744073709551616 = A := by omega
theorem lo_word (A B : Nat) (h : B < 18446744073709551616) : (A * 18446744073709551616 + B) % 18446744073709551616 = B := by omega
theorem product_calls (a b : Nat) (ha : (a : Int) ≤ 9223372036854775807) (hb : (b : Int) ≤ 9223372036854775807) (w : World) :
    Calls Try.prog 54 #[.int .i64 a, .int .i64 b] w fun e w' => e = .returned (.agg #[.int .u64 ((a * b / 18446744073709551616 : Nat) : Int), .int .u64 ((a * b % 18446744073709551616 : Nat) : Int)]) ∧ Below w.heap.size w w' := by
  have c := fun W => mul64_calls a b (by omega) (by omega) W
  generalize a * b / 18446744073709551616 = H at *
  generalize a * b % 18446744073709551616 = L at *
  have C := Lib.hid c
  clear c
  go_enter Try.func54, Try.ntmps54
  go_wp2_with (go_at_call 63; refine (C.out _).mono ?_; rintro e w' ⟨rfl, rfl⟩)
  go_returns
  exact ⟨rfl, by go_grown⟩

theorem times_walk (hi lo n H L P : Nat) (hn : (n : Int) ≤ 9223372036854775807) (hp : (hi : Int) * (n : Int) = (P : Int)) (hP : (H : Int) + (P : Int) ≤ 18446744073709551615)
    (c : Hid (∀ W, Calls Try.prog 63 #[.int .u64 lo, .int .u64 n] W fun e w' => e = .returned (.tuple #[.int .u64 (H : Int), .int .u64 (L : Int)]) ∧ W = w')) (w : World) :
    Calls Try.prog 55 #[.agg #[.int .u64 hi, .int .u64 lo], .int .i64 n] w fun e w' => e = .returned (.agg #[.int .u64 ((H : Int) + (P : Int)), .int .u64 (L : Int)]) ∧ Below w.heap.size w w' := by
  go_enter Try.func55, Try.ntmps55
  go_wp2_with (go_at_call 63; refine (c.out _).mono ?_; rintro e w' ⟨rfl, rfl⟩)
  go_returns
  exact ⟨rfl, by go_grown⟩

theorem times_calls (hi lo n : Nat) (hlo : lo < 18446744073709551616) (hn : (n : Int) ≤ 9223372036854775807) (h : (hi * 18446744073709551616 + lo) * n < 340282366920938463463374607431768211456) (w : World) :
    Calls Try.prog 55 #[.agg #[.int .u64 hi, .int .u64 lo], .int .i64 n] w fun e w' =>
      e = .returned (.agg #[.int .u64 (((hi * 18446744073709551616 + lo) * n / 18446744073709551616 : Nat) : Int), .int .u64 (((hi * 18446744073709551616 + lo) * n % 18446744073709551616 : Nat) : Int)]) ∧ Below w.heap.size w w' := by
  have e1 : (hi * 18446744073709551616 + lo) * n = 18446744073709551616 * (hi * n) + lo * n := by rw [Nat.add_mul, Nat.mul_right_comm, Nat.mul_comm 18446744073709551616]
  have e2 : (hi * 18446744073709551616 + lo) * n / 18446744073709551616 = lo * n / 18446744073709551616 + hi * n := by rw [e1, Nat.mul_add_div (by omega)]; omega
  have e3 : (hi * 18446744073709551616 + lo) * n % 18446744073709551616 = lo * n % 18446744073709551616 := by rw [e1, Nat.mul_add_mod]
  have e4 : lo * n / 18446744073709551616 + hi * n < 18446744073709551616 := by rw [← e2, Nat.div_lt_iff_lt_mul (by omega)]; exact h
  rw [e2, e3]
  refine (times_walk hi lo n (lo * n / 18446744073709551616) (lo * n % 18446744073709551616) (hi * n) hn (Int.natCast_mul _ _).symm (by omega) (Lib.hid fun W => mul64_calls lo n hlo (by omega) W) w).mono ?_
  rintro e w' ⟨rfl, hb⟩
  exact ⟨by rw [Int.natCast_add], hb⟩

set_option maxHeartbeats 1000000 in
theorem over_walk (hi lo n H R L M : Nat) (h1 : (1 : Int) ≤ (n : Int)) (hn : (n : Int) ≤ 9223372036854775807) (hhi : (hi : Int) ≤ 18446744073709551615) (hn0 : ((n : Int) == 0) = false)
    (hH : IntKind.u64.wrap ((hi : Int) / (n : Int)) = (H : Int)) (hR : (hi : Int) % (n : Int) = (R : Int))
    (c : Hid (∀ W, Calls Try.prog 64 #[.int .u64 R, .int .u64 lo, .int .u64 n] W fun e w' => e = .returned (.tuple #[.int .u64 (L : Int), .int .u64 (M : Int)]) ∧ ∃ k, w' = W.drewN k)) (w : World) :
    Calls Try.prog 56 #[.agg #[.int .u64 hi, .int .u64 lo], .int .i64 n] w fun e w' => e = .returned (.agg #[.int .u64 (H : Int), .int .u64 (L : Int)]) ∧ Below w.heap.size w w' := by
  go_enter Try.func56, Try.ntmps56
  go_wp2_with fail
  go_quiet (fail)
  go_wp2_with (go_at_call 64; refine (c.out _).mono ?_; rintro e w' ⟨rfl, k, rfl⟩)
  go_returns
  refine ⟨rfl, ?_⟩
  go_grown
  all_goals (refine below_drewN ?_ _; go_grown)

theorem over_calls (hi lo n : Nat) (h1 : 1 ≤ n) (hn : (n : Int) ≤ 9223372036854775807) (hhi : hi < 18446744073709551616) (hlo : lo < 18446744073709551616) (w : World) :
    Calls Try.prog 56 #[.agg #[.int .u64 hi, .int .u64 lo], .int .i64 n] w fun e w' =>
      e = .returned (.agg #[.int .u64 (((hi * 18446744073709551616 + lo) / n / 18446744073709551616 : Nat) : Int), .int .u64 (((hi * 18446744073709551616 + lo) / n % 18446744073709551616 : Nat) : Int)]) ∧ Below w.heap.size w w' := by
  have m := Nat.mod_lt hi (show 0 < n by omega)
  have e : (hi * 18446744073709551616 + lo) / n = hi / n * 18446744073709551616 + (hi % n * 18446744073709551616 + lo) / n := by
    have d := Nat.div_add_mod hi n
    have : hi * 18446744073709551616 + lo = n * (hi / n * 18446744073709551616) + (hi % n * 18446744073709551616 + lo) := by
      rw [← Nat.mul_assoc, ← Nat.add_assoc, ← Nat.add_mul, d]
    rw [this, Nat.mul_add_div (by omega)]
  have l : (hi % n * 18446744073709551616 + lo) / n < 18446744073709551616 := by
    rw [Nat.div_lt_iff_lt_mul (by omega)]; omega
  have d := Nat.div_le_self hi n
  rw [e]
  rw [hi_word _ _ l, lo_word _ _ l]
  refine over_walk hi lo n _ (hi % n) _ _ (by omega) hn (by omega) (by rw [beq_eq_false_iff_ne]; omega) ?_ (Int.natCast_emod hi n).symm (Lib.hid fun W => div64_calls (hi % n) lo n hlo m (by omega) W) w
  rw [← Int.natCast_ediv]
  exact IntWalk.u64_in _ (by omega)

/-- What the root's loop keeps: k bits to come, r found. -/
structure RootAt (X k r : Nat) : Prop where
  dvd : r % 2 ^ k = 0
  lt : r + 2 ^ k ≤ 9223372036854775808
  go : rootGo X k r = isqrt X

theorem rootAt_start (X : Nat) : RootAt X 63 0 := ⟨by simp, by decide, rfl⟩
theorem rootAt_yes {X k r : Nat} (h : RootAt X (k + 1) r) (hc : (r + 2 ^ k) * (r + 2 ^ k) ≤ X) : RootAt X k (r + 2 ^ k) := by
  obtain ⟨h1, h2, h3⟩ := h
  refine ⟨?_, ?_, ?_⟩
  · have : r % 2 ^ k = 0 := by
      rw [Nat.pow_succ] at h1
      exact Nat.mod_eq_zero_of_dvd (Nat.dvd_trans (Nat.dvd_mul_right _ _) (Nat.dvd_of_mod_eq_zero h1))
    rw [Nat.add_mod_right]; exact this
  · rw [Nat.pow_succ] at h2; omega
  · rw [← h3, rootGo, if_pos hc]
theorem rootAt_no {X k r : Nat} (h : RootAt X (k + 1) r) (hc : ¬ (r + 2 ^ k) * (r + 2 ^ k) ≤ X) : RootAt X k r := by
  obtain ⟨h1, h2, h3⟩ := h
  refine ⟨?_, ?_, ?_⟩
  · rw [Nat.pow_succ] at h1
    exact Nat.mod_eq_zero_of_dvd (Nat.dvd_trans (Nat.dvd_mul_right _ _) (Nat.dvd_of_mod_eq_zero h1))
  · rw [Nat.pow_succ] at h2; omega
  · rw [← h3, rootGo, if_neg hc]
theorem rootAt_or {X k r : Nat} (h : RootAt X (k + 1) r) : r ||| 2 ^ k = r + 2 ^ k := by
  have h1 := Nat.div_add_mod r (2 ^ (k + 1))
  rw [h.dvd, Nat.add_zero] at h1
  rw [← h1, ← Nat.two_pow_add_eq_or_of_lt (by rw [Nat.pow_succ]; have := Nat.two_pow_pos k; omega)]

theorem words_le (A B hi lo X T : Nat) (hX : X = hi * 18446744073709551616 + lo) (hlo : lo < 18446744073709551616) (hA : A = T / 18446744073709551616) (hB : B = T % 18446744073709551616) :
    T ≤ X ↔ A < hi ∨ A = hi ∧ B ≤ lo := by omega

set_option maxHeartbeats 4000000 in
theorem root_calls (hi lo X : Nat) (hlo : lo < 18446744073709551616) (hX : X = hi * 18446744073709551616 + lo) (w : World) :
    Calls Try.prog 57 #[.agg #[.int .u64 hi, .int .u64 lo]] w fun e w' => e = .returned (.int .i64 (isqrt X : Nat)) ∧ Below w.heap.size w w' := by
  have HX := Lib.hid hX
  have Hlo := Lib.hid hlo
  clear hX hlo
  go_enter Try.func57, Try.ntmps57
  go_wp2_with fail
  go_loop [3, 4] (fun s3 s4 => ∃ k r b : Nat, s3 = .int .u64 r ∧ s4 = .int .u64 b ∧ Hid (b = 2 ^ k / 2) ∧ k ≤ 63 ∧ Hid (RootAt X k r)) (fun _ s4 => (intOf s4).toNat)
  case atStart => exact ⟨63, 0, 4611686018427387904, rfl, rfl, Lib.hid (by decide), by omega, Lib.hid (rootAt_start X)⟩
  case round =>
    obtain ⟨k, r, b, rfl, rfl, hb, hk, hR⟩ := hrel
    rcases k with _ | k
    · have hb0 : b ≤ 0 := by rw [hb.out]; decide
      have hr : (r : Int) ≤ 9223372036854775807 := by have := hR.out.lt; omega
      have hr0 : Hid (r = isqrt X) := Lib.hid hR.out.go
      clear hb hR HX
      go_wp2
      go_returns
      exact ⟨(by show Ending.returned (.int .i64 (r : Int)) = _; rw [← hr0.out]), by go_grown⟩
    · have hb1 : b = 2 ^ k := by rw [hb.out, Nat.pow_succ]; omega
      have hk2 : 2 ^ k ≤ 2 ^ 62 := Nat.pow_le_pow_right (by omega) (by omega)
      have hpos : 0 < 2 ^ k := Nat.two_pow_pos k
      have hor := rootAt_or hR.out
      have hlt := hR.out.lt
      rw [Nat.pow_succ] at hlt
      rw [← hb1] at hor hk2 hpos hlt
      have e1 := bits_or_u64_nat r b (by omega) (by omega)
      rw [hor] at e1
      obtain ⟨t, ht⟩ : ∃ t, t = r + b := ⟨_, rfl⟩
      rw [← ht] at e1 hor
      have c := fun W => mul64_calls t t (by omega) (by omega) W
      obtain ⟨A, hA⟩ : ∃ A, A = t * t / 18446744073709551616 := ⟨_, rfl⟩
      obtain ⟨B, hB⟩ : ∃ A, A = t * t % 18446744073709551616 := ⟨_, rfl⟩
      rw [← hA, ← hB] at c
      have hw := words_le A B hi lo X (t * t) HX.out Hlo.out hA hB
      obtain ⟨b', hb'⟩ : ∃ b', b' = b / 2 := ⟨_, rfl⟩
      have e2 : (b : Int) / 2 = (b' : Int) := by omega
      have hb2 : Hid (b' = 2 ^ k / 2) := Lib.hid (by rw [hb', hb1])
      have hlt' : (b' : Int) < (b : Int) := by omega
      have hbp : (0 : Int) < (b : Int) := by omega
      have hyes : Hid (t * t ≤ X → RootAt X k t) := Lib.hid (fun h => by rw [ht, hb1] at h ⊢; exact rootAt_yes hR.out h)
      have hno : Hid (¬ t * t ≤ X → RootAt X k r) := Lib.hid (fun h => by rw [ht, hb1] at h; exact rootAt_no hR.out h)
      have C := Lib.hid c
      have W := Lib.hid hw
      clear c hw hA hB hor ht hb hb1 hb' hR HX Hlo hk2 hpos hlt
      by_cases c1 : (A : Int) < (hi : Int)
      · have hz := Lib.hid (hyes.out (W.out.2 (.inl (by omega))))
        go_wp2_with (go_at_call 63; refine (C.out _).mono ?_; rintro e w' ⟨rfl, rfl⟩)
        go_round
        case rel => exact ⟨k, t, b', rfl, rfl, hb2, by omega, hz⟩
        case measure => simp [intOf]; omega
      · by_cases c2 : (A : Int) = (hi : Int)
        · have c2' : ((A : Int) == (hi : Int)) = true := by rw [beq_iff_eq]; exact c2
          have c2n : A = hi := by omega
          by_cases c3 : (B : Int) ≤ (lo : Int)
          · have hz := Lib.hid (hyes.out (W.out.2 (.inr ⟨c2n, by omega⟩)))
            clear c2 c2n
            go_wp2_with (go_at_call 63; refine (C.out _).mono ?_; rintro e w' ⟨rfl, rfl⟩)
            go_round
            case rel => exact ⟨k, t, b', rfl, rfl, hb2, by omega, hz⟩
            case measure => simp [intOf]; omega
          · have hz := Lib.hid (hno.out (fun h => by have := W.out.1 h; omega))
            clear c2 c2n
            go_wp2_with (go_at_call 63; refine (C.out _).mono ?_; rintro e w' ⟨rfl, rfl⟩)
            go_round
            case rel => exact ⟨k, r, b', rfl, rfl, hb2, by omega, hz⟩
            case measure => simp [intOf]; omega
        · have c2' : ((A : Int) == (hi : Int)) = false := by rw [beq_eq_false_iff_ne]; exact c2
          have hz := Lib.hid (hno.out (fun h => by have := W.out.1 h; omega))
          clear c2
          go_wp2_with (go_at_call 63; refine (C.out _).mono ?_; rintro e w' ⟨rfl, rfl⟩)
          go_round
          case rel => exact ⟨k, r, b', rfl, rfl, hb2, by omega, hz⟩
          case measure => simp [intOf]; omega

/-- The two words of a number of 128 bits, kept from the walk. -/
def hiw (X : Nat) : Nat := X / 18446744073709551616
def low (X : Nat) : Nat := X % 18446744073709551616
theorem hilo (X : Nat) : hiw X * 18446744073709551616 + low X = X := by unfold hiw low; omega
theorem low_lt (X : Nat) : low X < 18446744073709551616 := by unfold low; omega
theorem hiw_lt {X : Nat} (h : X < 340282366920938463463374607431768211456) : hiw X < 18446744073709551616 := by unfold hiw; omega

theorem product_w (a b : Int) (ha0 : 0 ≤ a) (hb0 : 0 ≤ b) (ha : a ≤ 9223372036854775807) (hb : b ≤ 9223372036854775807) (w : World) :
    Calls Try.prog 54 #[.int .i64 a, .int .i64 b] w fun e w' => e = .returned (.agg #[.int .u64 (hiw (a.toNat * b.toNat) : Nat), .int .u64 (low (a.toNat * b.toNat) : Nat)]) ∧ Below w.heap.size w w' := by
  obtain ⟨x, rfl⟩ := Int.eq_ofNat_of_zero_le ha0
  obtain ⟨y, rfl⟩ := Int.eq_ofNat_of_zero_le hb0
  exact product_calls x y ha hb w
theorem times_w (X : Nat) (n : Int) (hn0 : 0 ≤ n) (hn : n ≤ 9223372036854775807) (h : X * n.toNat < 340282366920938463463374607431768211456) (w : World) :
    Calls Try.prog 55 #[.agg #[.int .u64 (hiw X : Nat), .int .u64 (low X : Nat)], .int .i64 n] w fun e w' => e = .returned (.agg #[.int .u64 (hiw (X * n.toNat) : Nat), .int .u64 (low (X * n.toNat) : Nat)]) ∧ Below w.heap.size w w' := by
  obtain ⟨m, rfl⟩ := Int.eq_ofNat_of_zero_le hn0
  rw [Int.toNat_natCast] at h ⊢
  have c := times_calls (hiw X) (low X) m (low_lt X) hn (by rw [hilo]; exact h) w
  rw [hilo] at c
  exact c
theorem over_w (X : Nat) (n : Int) (h1 : 1 ≤ n) (hn : n ≤ 9223372036854775807) (h : X < 340282366920938463463374607431768211456) (w : World) :
    Calls Try.prog 56 #[.agg #[.int .u64 (hiw X : Nat), .int .u64 (low X : Nat)], .int .i64 n] w fun e w' => e = .returned (.agg #[.int .u64 (hiw (X / n.toNat) : Nat), .int .u64 (low (X / n.toNat) : Nat)]) ∧ Below w.heap.size w w' := by
  obtain ⟨m, rfl⟩ := Int.eq_ofNat_of_zero_le (show 0 ≤ n by omega)
  rw [Int.toNat_natCast]
  have c := over_calls (hiw X) (low X) m (by omega) hn (hiw_lt h) (low_lt X) w
  rw [hilo] at c
  exact c
theorem root_w (X : Nat) (w : World) :
    Calls Try.prog 57 #[.agg #[.int .u64 (hiw X : Nat), .int .u64 (low X : Nat)]] w fun e w' => e = .returned (.int .i64 (isqrt X : Nat)) ∧ Below w.heap.size w w' :=
  root_calls (hiw X) (low X) X (low_lt X) (hilo X).symm w

/-- The flows as the walk has them. -/
def wq (b h : Int) : Int := (weirQ b.toNat h.toNat : Nat)
def oq (a h : Int) : Int := (orifQ a.toNat h.toNat : Nat)

theorem mul_range {a b A B : Int} (ha : 0 ≤ a) (ha' : a ≤ A) (hb : 0 ≤ b) (hb' : b ≤ B) : 0 ≤ a * b ∧ a * b ≤ A * B :=
  ⟨Int.mul_nonneg ha hb, Int.mul_le_mul ha' hb' hb (Int.le_trans ha ha')⟩
theorem below_then {a b c : World} (h : Below a.heap.size a b) (k : Below b.heap.size b c) : Below a.heap.size a c := h.trans (k.mono h.size)

set_option maxHeartbeats 1000000 in
theorem weir_calls (b h : Int) (hb0 : 0 ≤ b) (hb : b ≤ 1048576) (hh0 : 0 ≤ h) (hh : h ≤ 1048576) (w : World) :
    Calls Try.prog 40 #[.int .i64 b, .int .i64 h] w fun e w' => e = .returned (.int .i64 (wq b h)) ∧ Below w.heap.size w w' := by
  have r1 := mul_range hb0 hb hb0 hb
  have r2 := mul_range hh0 hh hh0 hh
  have e1 : (b * b).toNat * (h * h).toNat * h.toNat * 289 / 100000 = weirX b.toNat h.toNat := by
    rw [Int.toNat_mul hb0 hb0, Int.toNat_mul hh0 hh0]; rfl
  have m0 := @weirN_mono b.toNat h.toNat 1048576 1048576 (by omega) (by omega)
  have t1 : (b * b).toNat * (h * h).toNat * h.toNat < 340282366920938463463374607431768211456 := by
    rw [Int.toNat_mul hb0 hb0, Int.toNat_mul hh0 hh0]; omega
  have t2 : (b * b).toNat * (h * h).toNat * h.toNat * (289 : Int).toNat < 340282366920938463463374607431768211456 := by
    rw [Int.toNat_mul hb0 hb0, Int.toNat_mul hh0 hh0]; exact Nat.lt_of_le_of_lt m0 (by decide)
  obtain ⟨p1, p2⟩ := r1
  obtain ⟨p3, p4⟩ := r2
  have E := Lib.hid e1
  have T1 := Lib.hid t1
  have T2 := Lib.hid t2
  clear e1 m0 t1 t2
  go_enter Try.func40, Try.ntmps40
  go_wp2_with fail
  refine (product_w (b * b) (h * h) p1 p3 (by omega) (by omega) _).mono ?_
  rintro e w1 ⟨rfl, hb1⟩
  go_wp2_with fail
  refine (times_w _ h hh0 (by omega) T1.out _).mono ?_
  rintro e w2 ⟨rfl, hb2⟩
  go_wp2_with fail
  refine (times_w _ 289 (by omega) (by omega) T2.out _).mono ?_
  rintro e w3 ⟨rfl, hb3⟩
  go_wp2_with fail
  refine (over_w _ 100000 (by omega) (by omega) T2.out _).mono ?_
  rintro e w4 ⟨rfl, hb4⟩
  go_wp2_with fail
  refine (root_w _ _).mono ?_
  rintro e w5 ⟨rfl, hb5⟩
  go_wp2_with fail
  go_returns
  refine ⟨?_, ?_⟩
  · show Ending.returned (.int .i64 _) = _
    rw [E.out]; rfl
  · exact below_then (below_then (below_then (below_then hb1 hb2) hb3) hb4) hb5

set_option maxHeartbeats 1000000 in
theorem orifice_calls (a h : Int) (ha0 : 0 ≤ a) (ha : a ≤ 1073741824) (hh0 : 0 ≤ h) (hh : h ≤ 1048576) (w : World) :
    Calls Try.prog 42 #[.int .i64 a, .int .i64 h] w fun e w' => e = .returned (.int .i64 (oq a h)) ∧ Below w.heap.size w w' := by
  have m0 := @orifN_mono a.toNat h.toNat 1073741824 1048576 (by omega) (by omega)
  have t2 : a.toNat * a.toNat * h.toNat * 8829 < 340282366920938463463374607431768211456 := Nat.lt_of_le_of_lt m0 (by decide)
  have t1 : a.toNat * a.toNat * h.toNat < 340282366920938463463374607431768211456 := by omega
  have T1 := Lib.hid t1
  have T2 := Lib.hid t2
  clear m0 t1 t2
  go_enter Try.func42, Try.ntmps42
  go_wp2_with fail
  refine (product_w a a ha0 ha0 (by omega) (by omega) _).mono ?_
  rintro e w1 ⟨rfl, hb1⟩
  go_wp2_with fail
  refine (times_w _ h hh0 (by omega) T1.out _).mono ?_
  rintro e w2 ⟨rfl, hb2⟩
  go_wp2_with fail
  refine (times_w _ 8829 (by omega) (by omega) T2.out _).mono ?_
  rintro e w3 ⟨rfl, hb3⟩
  go_wp2_with fail
  refine (over_w _ 1250000 (by omega) (by omega) T2.out _).mono ?_
  rintro e w4 ⟨rfl, hb4⟩
  go_wp2_with fail
  refine (root_w _ _).mono ?_
  rintro e w5 ⟨rfl, hb5⟩
  go_wp2_with fail
  go_returns
  exact ⟨rfl, below_then (below_then (below_then (below_then hb1 hb2) hb3) hb4) hb5⟩

theorem within_calls (n lo hi : Int) (w : World) : Calls Try.prog 38 #[.int .i64 n, .int .i64 lo, .int .i64 hi] w fun e w' => e = .returned (.bool (decide (lo ≤ n) && decide (n ≤ hi))) ∧ w = w' := by
  by_cases h1 : lo ≤ n <;> by_cases h2 : n ≤ hi
  all_goals
    go_enter Try.func38, Try.ntmps38
    go_wp2
    go_ret
    exact ⟨by simp [h1, h2], rfl⟩
/-- In two halves, so that a walk that has decided goes one way. -/
theorem within_yes (n lo hi : Int) (w : World) (h1 : lo ≤ n) (h2 : n ≤ hi) : Calls Try.prog 38 #[.int .i64 n, .int .i64 lo, .int .i64 hi] w fun e w' => e = .returned (.bool true) ∧ w = w' := by
  refine (within_calls n lo hi w).mono ?_
  rintro e w' ⟨rfl, rfl⟩
  simp [h1, h2]
theorem within_no (n lo hi : Int) (w : World) (h : ¬ (lo ≤ n ∧ n ≤ hi)) : Calls Try.prog 38 #[.int .i64 n, .int .i64 lo, .int .i64 hi] w fun e w' => e = .returned (.bool false) ∧ w = w' := by
  refine (within_calls n lo hi w).mono ?_
  rintro e w' ⟨rfl, rfl⟩
  refine ⟨?_, rfl⟩
  congr 2
  rw [Bool.and_eq_false_iff]
  simp only [decide_eq_false_iff_not]
  omega

/-- A flow that is not too great: the number and the error. -/
def flowV (q : Int) : Int × Int := if 1099511627776 < q then (0, 5) else (q, 0)
theorem flow_calls (q : Int) (w : World) : Calls Try.prog 39 #[.int .i64 q] w fun e w' => e = .returned (.tuple #[.int .i64 (flowV q).1, .int .i64 (flowV q).2]) ∧ w = w' := by
  unfold flowV
  by_cases h : 1099511627776 < q
  · rw [if_pos h]
    go_enter Try.func39, Try.ntmps39
    go_wp2
    go_ret2
    exact ⟨rfl, rfl⟩
  · rw [if_neg h]
    go_enter Try.func39, Try.ntmps39
    go_wp2
    go_ret2
    exact ⟨rfl, rfl⟩

def levelB (n : Int) : Bool := decide (-4194304 ≤ n) && decide (n ≤ 4194304)
theorem level_calls (n : Int) (w : World) : Calls Try.prog 44 #[.int .i64 n] w fun e w' => e = .returned (.bool (levelB n)) ∧ w = w' := by
  have c := fun W => within_calls n (-4194304) 4194304 W
  have C := Lib.hid c
  clear c
  unfold levelB
  generalize (decide (-4194304 ≤ n) && decide (n ≤ 4194304)) = b at *
  go_enter Try.func44, Try.ntmps44
  go_wp2_with fail
  refine (C.out _).mono ?_
  rintro e w1 ⟨rfl, rfl⟩
  go_wp2_with fail
  go_returns
  exact ⟨rfl, rfl⟩

/-- Weir and Orifice: the flow and the error. -/
def WeirV (b h : Int) : Int × Int := if 1 ≤ b ∧ b ≤ 1048576 ∧ 0 ≤ h ∧ h ≤ 1048576 then flowV (wq b h) else (0, 2)
def OrificeV (a h : Int) : Int × Int := if 0 ≤ a ∧ a ≤ 1073741824 ∧ 0 ≤ h ∧ h ≤ 1048576 then flowV (oq a h) else (0, 2)

set_option maxHeartbeats 1000000 in
theorem Weir_calls (b h : Int) (w : World) : Calls Try.prog 12 #[.int .i64 b, .int .i64 h] w fun e w' => e = .returned (.tuple #[.int .i64 (WeirV b h).1, .int .i64 (WeirV b h).2]) ∧ Below w.heap.size w w' := by
  unfold WeirV
  by_cases c1 : 1 ≤ b ∧ b ≤ 1048576
  · by_cases c2 : 0 ≤ h ∧ h ≤ 1048576
    · rw [if_pos ⟨c1.1, c1.2, c2.1, c2.2⟩]
      have c := fun W => within_yes b 1 1048576 W c1.1 c1.2
      have d := fun W => within_yes h 0 1048576 W c2.1 c2.2
      have f := fun W => weir_calls b h (by omega) c1.2 c2.1 c2.2 W
      have C := Lib.hid c
      have D := Lib.hid d
      have F := Lib.hid f
      clear c d f c1 c2
      go_enter Try.func12, Try.ntmps12
      go_wp2_with fail
      refine (C.out _).mono ?_
      rintro e w1 ⟨rfl, rfl⟩
      go_wp2_with fail
      refine (D.out _).mono ?_
      rintro e w1 ⟨rfl, rfl⟩
      go_wp2_with fail
      refine (F.out _).mono ?_
      rintro e w1 ⟨rfl, hb1⟩
      go_wp2_with fail
      refine (flow_calls _ _).mono ?_
      rintro e w2 ⟨rfl, rfl⟩
      go_wp2_with fail
      go_returns
      exact ⟨rfl, hb1⟩
    · rw [if_neg (by omega)]
      have c := fun W => within_yes b 1 1048576 W c1.1 c1.2
      have d := fun W => within_no h 0 1048576 W c2
      have C := Lib.hid c
      have D := Lib.hid d
      clear c d c1 c2
      go_enter Try.func12, Try.ntmps12
      go_wp2_with fail
      refine (C.out _).mono ?_
      rintro e w1 ⟨rfl, rfl⟩
      go_wp2_with fail
      refine (D.out _).mono ?_
      rintro e w1 ⟨rfl, rfl⟩
      go_wp2_with fail
      go_returns
      exact ⟨rfl, Below.refl _ _⟩
  · rw [if_neg (by omega)]
    have c := fun W => within_no b 1 1048576 W c1
    have C := Lib.hid c
    clear c c1
    go_enter Try.func12, Try.ntmps12
    go_wp2_with fail
    refine (C.out _).mono ?_
    rintro e w1 ⟨rfl, rfl⟩
    go_wp2_with fail
    go_returns
    exact ⟨rfl, Below.refl _ _⟩
end Go.Proofs.Ytfalmbcnbomaoaa
