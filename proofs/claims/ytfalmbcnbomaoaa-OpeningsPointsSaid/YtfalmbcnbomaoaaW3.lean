/- the reference's root and flows; Weir and Orifice of both -/
import Derived.Test.YtfalmbcnbomaoaaW2
import Derived.Deep.RegionHeld3
namespace Go.Proofs.Ytfalmbcnbomaoaa
open Go.Proofs.Ytfalmbcnbomaoaa.DivLaw Go.Proofs.Ytfalmbcnbomaoaa.Open Go.RowKit
set_option linter.unusedVariables false

/-- A new block of three cells, read in a later world. -/
theorem new3 {w w1 : World} {x y z : Value} {t : TypeId} {B : Nat} (hb : Below B (w.alloc (.cells #[x, y, z] t)) w1) (hB : w.heap.size < B) :
    w1.cell? ⟨w.heap.size, 0, none⟩ = some x ∧ w1.cell? ⟨w.heap.size, 1, none⟩ = some y ∧ w1.cell? ⟨w.heap.size, 2, none⟩ = some z ∧ ∀ j, w1.frozen? ⟨w.heap.size, j, none⟩ = false :=
  ⟨(hb.cell (p := ⟨w.heap.size, 0, none⟩) hB).trans (by rw [World.cell?_alloc_new]; rfl), (hb.cell (p := ⟨w.heap.size, 1, none⟩) hB).trans (by rw [World.cell?_alloc_new]; rfl), (hb.cell (p := ⟨w.heap.size, 2, none⟩) hB).trans (by rw [World.cell?_alloc_new]; rfl),
    fun j => (hb.frozen (p := ⟨w.heap.size, j, none⟩) hB).trans (by simp)⟩

theorem Times_calls (a b : Int) (ha0 : 0 ≤ a) (hb0 : 0 ≤ b) (ha : a ≤ 9223372036854775807) (hb : b ≤ 9223372036854775807) (w : World) :
    Calls Try.prog 59 #[.int .i64 a, .int .i64 b] w fun e w' => e = .returned (.agg #[.int .u64 (hiw (a.toNat * b.toNat) : Nat), .int .u64 (low (a.toNat * b.toNat) : Nat), .bool false]) ∧ Below w.heap.size w w' := by
  have c := fun W => Size_calls a ha0 ha W
  have d := fun W => Size_calls b hb0 hb W
  obtain ⟨x, rfl⟩ := Int.eq_ofNat_of_zero_le ha0
  obtain ⟨y, rfl⟩ := Int.eq_ofNat_of_zero_le hb0
  have m := fun W => Mul_calls x y (by omega) (by omega) W
  rw [Int.toNat_natCast, Int.toNat_natCast]
  generalize x * y = P at *
  have C := Lib.hid c
  have D := Lib.hid d
  have M := Lib.hid m
  clear c d m
  go_enter Try.func59, Try.ntmps59
  go_wp2_with fail
  refine (C.out _).mono ?_
  rintro e w1 ⟨rfl, rfl⟩
  go_wp2_with fail
  refine (D.out _).mono ?_
  rintro e w1 ⟨rfl, rfl⟩
  go_wp2_with fail
  refine (M.out _).mono ?_
  rintro e w1 ⟨rfl, hb1⟩
  go_wp2_with fail
  refine (Made_calls _ _ _).mono ?_
  rintro e w2 ⟨rfl, hb2⟩
  have hz := hb1.size
  simp only [World.size_alloc] at hz
  obtain ⟨q0, q1, q2, z⟩ := new3 (hb1.trans (hb2.mono hb1.size)) (by simp)
  go_wp2_with fail
  refine bodyPost_ret (v := .agg #[.int .u64 (hiw P : Nat), .int .u64 (low P : Nat), .bool false]) (by simp [results, Try.results59, go_sem, q0, q1, q2]) rfl ⟨rfl, ?_⟩
  exact (((((Below.refl _ w).alloc (Nat.le_refl _) _).trans ((hb1.trans (hb2.mono hb1.size)).mono (by simp))).setCell (Nat.le_refl _) _).setCell (Nat.le_refl _) _).setCell (Nat.le_refl _) _

set_option maxHeartbeats 2000000 in
theorem Down_calls (A B : Nat) (hA : A < 340282366920938463463374607431768211456) (hB : 0 < B) (hB' : B < 170141183460469231731687303715884105728) (w : World) :
    Calls Try.prog 58 #[.agg #[.int .u64 (hiw A : Nat), .int .u64 (low A : Nat), .bool false], .agg #[.int .u64 (hiw B : Nat), .int .u64 (low B : Nat), .bool false]] w fun e w' =>
      e = .returned (.agg #[.int .u64 (hiw (A / B) : Nat), .int .u64 (low (A / B) : Nat), .bool false]) ∧ Below w.heap.size w w' := by
  have c := fun W => Div_calls A B hA hB hB' W
  generalize A / B = Q at *
  generalize A % B = R at *
  have C := Lib.hid c
  clear c hA hB hB'
  go_enter Try.func58, Try.ntmps58
  go_wp2_with fail
  refine (C.out _).mono ?_
  rintro e w1 ⟨rfl, hb1⟩
  have z1 := hb1.size
  simp only [World.size_alloc] at z1
  have l0 : w.heap.size < w1.heap.size := by omega
  have l1 : w.heap.size + 1 < w1.heap.size := by omega
  have l2 : w.heap.size + 1 + 1 < w1.heap.size := by omega
  have m0 : w.heap.size < w1.heap.size + 1 := by omega
  have m1 : w.heap.size + 1 < w1.heap.size + 1 := by omega
  have m2 : w.heap.size + 1 + 1 < w1.heap.size + 1 := by omega
  have n2 : w.heap.size + 1 + 1 < w1.heap.size + 1 + 1 := by omega
  have qa2 : w1.cell? ⟨w.heap.size, 2, none⟩ = some (.bool false) := (hb1.cell (p := ⟨w.heap.size, 2, none⟩) (by simp; try omega)).trans (by go_simp)
  have qb2 : w1.cell? ⟨w.heap.size + 1, 2, none⟩ = some (.bool false) := (hb1.cell (p := ⟨w.heap.size + 1, 2, none⟩) (by simp; try omega)).trans (by go_simp)
  have qr0 : w1.cell? ⟨w.heap.size + 1 + 1, 0, none⟩ = some (.int .u64 0) := (hb1.cell (p := ⟨w.heap.size + 1 + 1, 0, none⟩) (by simp; try omega)).trans (by go_simp)
  have qr1 : w1.cell? ⟨w.heap.size + 1 + 1, 1, none⟩ = some (.int .u64 0) := (hb1.cell (p := ⟨w.heap.size + 1 + 1, 1, none⟩) (by simp; try omega)).trans (by go_simp)
  have qr2 : w1.cell? ⟨w.heap.size + 1 + 1, 2, none⟩ = some (.bool false) := (hb1.cell (p := ⟨w.heap.size + 1 + 1, 2, none⟩) (by simp; try omega)).trans (by go_simp)
  have zr : ∀ j, w1.frozen? ⟨w.heap.size + 1 + 1, j, none⟩ = false := fun j => (hb1.frozen (p := ⟨w.heap.size + 1 + 1, j, none⟩) (by simp; try omega)).trans (by go_simp)
  go_wp2_with fail
  refine (Made_calls _ _ _).mono ?_
  rintro e w2 ⟨rfl, hb2⟩
  have z2 := hb2.size
  simp only [World.size_alloc] at z2
  have pr0 : w2.cell? ⟨w.heap.size + 1 + 1, 0, none⟩ = some (.int .u64 0) := (hb2.cell (p := ⟨w.heap.size + 1 + 1, 0, none⟩) (by simp; try omega)).trans (by go_simp)
  have pr1 : w2.cell? ⟨w.heap.size + 1 + 1, 1, none⟩ = some (.int .u64 0) := (hb2.cell (p := ⟨w.heap.size + 1 + 1, 1, none⟩) (by simp; try omega)).trans (by go_simp)
  have pr2 : w2.cell? ⟨w.heap.size + 1 + 1, 2, none⟩ = some (.bool false) := (hb2.cell (p := ⟨w.heap.size + 1 + 1, 2, none⟩) (by simp; try omega)).trans (by go_simp)
  have yr : ∀ j, w2.frozen? ⟨w.heap.size + 1 + 1, j, none⟩ = false := fun j => (hb2.frozen (p := ⟨w.heap.size + 1 + 1, j, none⟩) (by simp; try omega)).trans (by go_simp)
  clear qr0 qr1 qr2 zr qa2 qb2
  go_wp2_with fail
  refine bodyPost_ret (v := .agg #[.int .u64 (hiw Q : Nat), .int .u64 (low Q : Nat), .bool false]) (by simp [results, Try.results58, go_sem, pr0, pr1, pr2]) rfl ⟨rfl, ?_⟩
  have h0 : Below w.heap.size w w1 := Below.trans (by go_grown) (hb1.mono (by simp; omega))
  have h1 : Below w.heap.size w w2 := Below.trans (b := ((w1.alloc (Obj.cells #[Value.int IntKind.u64 (hiw Q : Nat), Value.int IntKind.u64 (low Q : Nat)] 74)).alloc (Obj.cells #[Value.int IntKind.u64 (hiw R : Nat), Value.int IntKind.u64 (low R : Nat)] 74))) ((h0.alloc (by omega) _).alloc (by simp; omega) _) (hb2.mono (by simp; omega))
  exact ((h1.setCell (by simp; try omega) _).setCell (by simp; try omega) _).setCell (by simp; try omega) _

theorem At2.drew {w : World} {g X : Nat} (h : At2 w g X) : At2 w.drew g X := ⟨h.c0, h.c1, h.z, h.lt⟩

set_option maxHeartbeats 4000000 in
theorem Root_calls (X : Nat) (w : World) :
    Calls Try.prog 61 #[.agg #[.int .u64 (hiw X : Nat), .int .u64 (low X : Nat)]] w fun e w' => e = .returned (.int .u64 (isqrt X : Nat)) ∧ Below w.heap.size w w' := by
  go_enter Try.func61, Try.ntmps61
  go_wp2_with fail
  go_loopw [3, 4] (fun s3 s4 wr => ∃ k i r : Nat, s3 = .int .u64 r ∧ s4 = .int .i64 i ∧ Hid (i + k = 63) ∧ Hid (RootAt X k r) ∧ Hid (At2 wr w.heap.size X) ∧ Below w.heap.size w wr) (fun _ s4 _ => 63 - (intOf s4).toNat)
  case atStart => exact ⟨63, 0, 0, rfl, rfl, Lib.hid rfl, Lib.hid (rootAt_start X), Lib.hid (At2.new_ w 74 X), by go_grown⟩
  case round =>
    obtain ⟨k, i, r, rfl, rfl, hk, hR, AX, hbw⟩ := hrel
    rcases k with _ | k
    · have hi : ¬ (i : Int) < 63 := by have := hk.out; omega
      have hr0 : Hid (r = isqrt X) := Lib.hid hR.out.go
      clear hk hR AX
      go_wp2
      go_returns
      exact ⟨(by show Ending.returned (.int .u64 (r : Int)) = _; rw [← hr0.out]), hbw⟩
    · have hi : (i : Int) < 63 := by have := hk.out; omega
      have e1 : (62 : Int) - (i : Int) = (k : Int) := by have := hk.out; omega
      have hkl : (k : Int) ≤ 62 := by have := hk.out; omega
      obtain ⟨b, hb⟩ : ∃ b, b = 2 ^ k := ⟨_, rfl⟩
      have e2 : (2 : Int) ^ k = (b : Int) := by rw [hb]; simp
      have hlt := hR.out.lt
      rw [Nat.pow_succ, ← hb] at hlt
      have hbl : (r : Int) + (b : Int) ≤ 9223372036854775807 := by have := Nat.two_pow_pos k; omega
      obtain ⟨t, ht⟩ : ∃ t, t = r + b := ⟨_, rfl⟩
      have e3 : (r : Int) + (b : Int) = (t : Int) := by omega
      have m := fun W => Mul_calls t t (by omega) (by omega) W
      have hyes : Hid (t * t ≤ X → RootAt X k t) := Lib.hid (fun h => by rw [ht, hb] at h ⊢; exact rootAt_yes hR.out h)
      have hno : Hid (¬ t * t ≤ X → RootAt X k r) := Lib.hid (fun h => by rw [ht, hb] at h; exact rootAt_no hR.out h)
      obtain ⟨T, hT⟩ : ∃ T, T = t * t := ⟨_, rfl⟩
      rw [← hT] at m hyes hno
      have M := Lib.hid m
      obtain ⟨cx0, cx1, czx, lx⟩ := AX.out
      clear m hT ht hb hR hlt
      by_cases c : X < T
      · have L := Lib.hid (fun W => Less_yes X T c W)
        have hz := Lib.hid (hno.out (by omega))
        clear c
        go_wp2_with fail
        go_region_held3 (fun W => W.cell? ⟨w.heap.size, 0, none⟩ = some (.int .u64 (hiw X : Nat)) ∧ W.cell? ⟨w.heap.size, 1, none⟩ = some (.int .u64 (low X : Nat)) ∧ At2 W w.heap.size X ∧ Below w.heap.size w W) (first | exact ⟨AX.out.drew.c0, AX.out.drew.c1, AX.out.drew, hbw.drew⟩ | exact ⟨At2.c0 (by assumption), At2.c1 (by assumption), by assumption, by assumption⟩) (first | (go_at_call 68; refine (M.out _).mono ?_; rintro e w1 ⟨rfl, hb1⟩; have A1 := (At2.drew AX.out).below hb1; have p4 := hbw.drew.trans (hb1.mono (Nat.le_of_lt lx))) | (go_at_call 70; refine (L.out _).mono ?_; rintro e w2 ⟨rfl, hb2⟩; have A2 := A1.below hb2; have p5 := p4.trans (hb2.mono (Nat.le_of_lt A1.lt))))
        all_goals (go_wp2_with fail; go_roundw)
        case rel => exact ⟨k, i + 1, r, rfl, by go_num, Lib.hid (by have := hk.out; omega), hz, Lib.hid (by assumption), by assumption⟩
        case measure => simp [intOf]; omega
      · have L := Lib.hid (fun W => Less_no X T c W)
        have hz := Lib.hid (hyes.out (by omega))
        clear c
        go_wp2_with fail
        go_region_held3 (fun W => W.cell? ⟨w.heap.size, 0, none⟩ = some (.int .u64 (hiw X : Nat)) ∧ W.cell? ⟨w.heap.size, 1, none⟩ = some (.int .u64 (low X : Nat)) ∧ At2 W w.heap.size X ∧ Below w.heap.size w W) (first | exact ⟨AX.out.drew.c0, AX.out.drew.c1, AX.out.drew, hbw.drew⟩ | exact ⟨At2.c0 (by assumption), At2.c1 (by assumption), by assumption, by assumption⟩) (first | (go_at_call 68; refine (M.out _).mono ?_; rintro e w1 ⟨rfl, hb1⟩; have A1 := (At2.drew AX.out).below hb1; have p4 := hbw.drew.trans (hb1.mono (Nat.le_of_lt lx))) | (go_at_call 70; refine (L.out _).mono ?_; rintro e w2 ⟨rfl, hb2⟩; have A2 := A1.below hb2; have p5 := p4.trans (hb2.mono (Nat.le_of_lt A1.lt))))
        all_goals (go_wp2_with fail; go_roundw)
        case rel => exact ⟨k, i + 1, t, rfl, by go_num, Lib.hid (by have := hk.out; omega), hz, Lib.hid (by assumption), by assumption⟩
        case measure => simp [intOf]; omega

theorem flowV_no {q : Int} (h : 1099511627776 < q) : flowV q = (0, 5) := by unfold flowV; rw [if_pos h]
theorem flowV_ok {q : Int} (h : ¬ 1099511627776 < q) : flowV q = (q, 0) := by unfold flowV; rw [if_neg h]
theorem ret2 {a b c d : Int} (h : a = c) (k : b = d) : Ending.returned (.tuple #[.int .i64 a, .int .i64 b]) = .returned (.tuple #[.int .i64 c, .int .i64 d]) := by rw [h, k]

set_option maxHeartbeats 2000000 in
theorem root_ref (a b n : Int) (ha0 : 0 ≤ a) (hb0 : 0 ≤ b) (ha : a ≤ 9223372036854775807) (hb : b ≤ 9223372036854775807) (hn : 1 ≤ n) (hn' : n ≤ 9223372036854775807) (Q : Nat) (hQ : Q = isqrt (a.toNat * b.toNat / n.toNat)) (hl : Q ≤ 9223372036854775807) (w : World) :
    Calls Try.prog 41 #[.int .i64 a, .int .i64 b, .int .i64 n] w fun e w' => e = .returned (.tuple #[.int .i64 (flowV Q).1, .int .i64 (flowV Q).2]) ∧ Below w.heap.size w w' := by
  have c1 := fun W => Times_calls a b ha0 hb0 ha hb W
  have c2 := fun W => OfInt_calls n (by omega) hn' W
  have hab : a.toNat * b.toNat < 340282366920938463463374607431768211456 := Nat.lt_of_le_of_lt (Nat.mul_le_mul (show a.toNat ≤ 9223372036854775807 by omega) (show b.toNat ≤ 9223372036854775807 by omega)) (by decide)
  have c3 := fun W => Down_calls (a.toNat * b.toNat) n.toNat hab (by omega) (by omega) W
  have c4 := fun W => Root_calls (a.toNat * b.toNat / n.toNat) W
  rw [← hQ] at c4
  generalize a.toNat * b.toNat / n.toNat = D at *
  generalize a.toNat * b.toNat = P at *
  have C1 := Lib.hid c1
  have C2 := Lib.hid c2
  have C3 := Lib.hid c3
  have C4 := Lib.hid c4
  have hl' : (Q : Int) ≤ 9223372036854775807 := by omega
  clear c1 c2 c3 c4 hab hQ ha0 hb0 ha hb hn hn' hl
  by_cases h : 1099511627776 < (Q : Int)
  all_goals
    first | rw [flowV_no h] | rw [flowV_ok h]
    go_enter Try.func41, Try.ntmps41
    go_wp2_with fail
    refine (C1.out _).mono ?_
    rintro e w1 ⟨rfl, hb1⟩
    go_wp2_with fail
    refine (C2.out _).mono ?_
    rintro e w2 ⟨rfl, hb2⟩
    go_wp2_with fail
    refine (C3.out _).mono ?_
    rintro e w3 ⟨rfl, hb3⟩
    have hb13 := below_then (below_then hb1 hb2) hb3
    go_wp2_with fail
    refine (C4.out _).mono ?_
    rintro e w4 ⟨rfl, hb4⟩
    go_wp2_with fail
    go_returns
    exact ⟨rfl, hb13.trans (((Below.refl _ _).alloc hb13.size _).trans (hb4.mono (by simp; have := hb13.size; omega)))⟩

theorem isqrt_le63 {x : Nat} (hx : x < 2 ^ 126) : isqrt x ≤ 9223372036854775807 := by have := isqrt_lt63 hx; omega

set_option maxHeartbeats 2000000 in
theorem Weir_ref (b h : Int) (w : World) : Calls Try.prog 13 #[.int .i64 b, .int .i64 h] w fun e w' => e = .returned (.tuple #[.int .i64 (WeirV b h).1, .int .i64 (WeirV b h).2]) ∧ Below w.heap.size w w' := by
  unfold WeirV
  by_cases c1 : 1 ≤ b
  · by_cases c2 : b ≤ 1048576
    · by_cases c3 : 0 ≤ h
      · by_cases c4 : h ≤ 1048576
        · rw [if_pos ⟨c1, c2, c3, c4⟩]
          have r1 := mul_range (show 0 ≤ b by omega) c2 (show 0 ≤ b by omega) c2
          have r2 := mul_range c3 c4 c3 c4
          have r3 := mul_range r2.1 r2.2 c3 c4
          obtain ⟨r1a, r1b⟩ := r1
          obtain ⟨r2a, r2b⟩ := r2
          obtain ⟨r3a, r3b⟩ := r3
          have e : weirQ b.toNat h.toNat = isqrt ((b * b * 289).toNat * (h * h * h).toNat / (100000 : Int).toNat) := by
            unfold weirQ weirX
            rw [Int.toNat_mul r1a (by omega), Int.toNat_mul r2a c3, Int.toNat_mul (by omega) (by omega), Int.toNat_mul c3 c3]
            congr 2
            simp only [Nat.mul_assoc, Nat.mul_comm, Nat.mul_left_comm]
            simp only [Int.reduceToNat]
          have d := fun W => root_ref (b * b * 289) (h * h * h) 100000 (by omega) r3a (by omega) (by omega) (by omega) (by omega) (weirQ b.toNat h.toNat) e (isqrt_le63 (weirX_lt (by omega) (by omega))) W
          have D := Lib.hid d
          have n1 : ¬ b < 1 := by omega
          have n2 : ¬ 1048576 < b := by omega
          have n3 : ¬ h < 0 := by omega
          have n4 : ¬ 1048576 < h := by omega
          clear d e
          go_enter Try.func13, Try.ntmps13
          go_wp2_with fail
          refine (D.out _).mono ?_
          rintro e w1 ⟨rfl, hb1⟩
          go_wp2_with fail
          go_returns
          exact ⟨rfl, hb1⟩
        · rw [if_neg (by omega)]
          have n1 : ¬ b < 1 := by omega
          have n2 : ¬ 1048576 < b := by omega
          have n3 : ¬ h < 0 := by omega
          have n4 : 1048576 < h := by omega
          go_enter Try.func13, Try.ntmps13
          go_wp2_with fail
          go_returns
          exact ⟨rfl, Below.refl _ _⟩
      · rw [if_neg (by omega)]
        have n1 : ¬ b < 1 := by omega
        have n2 : ¬ 1048576 < b := by omega
        have n3 : h < 0 := by omega
        go_enter Try.func13, Try.ntmps13
        go_wp2_with fail
        go_returns
        exact ⟨rfl, Below.refl _ _⟩
    · rw [if_neg (by omega)]
      have n1 : ¬ b < 1 := by omega
      have n2 : 1048576 < b := by omega
      go_enter Try.func13, Try.ntmps13
      go_wp2_with fail
      go_returns
      exact ⟨rfl, Below.refl _ _⟩
  · rw [if_neg (by omega)]
    have n1 : b < 1 := by omega
    go_enter Try.func13, Try.ntmps13
    go_wp2_with fail
    go_returns
    exact ⟨rfl, Below.refl _ _⟩

set_option maxHeartbeats 1000000 in
theorem Orifice_calls (a h : Int) (w : World) : Calls Try.prog 14 #[.int .i64 a, .int .i64 h] w fun e w' => e = .returned (.tuple #[.int .i64 (OrificeV a h).1, .int .i64 (OrificeV a h).2]) ∧ Below w.heap.size w w' := by
  unfold OrificeV
  by_cases c1 : 0 ≤ a ∧ a ≤ 1073741824
  · by_cases c2 : 0 ≤ h ∧ h ≤ 1048576
    · rw [if_pos ⟨c1.1, c1.2, c2.1, c2.2⟩]
      have c := fun W => within_yes a 0 1073741824 W c1.1 c1.2
      have d := fun W => within_yes h 0 1048576 W c2.1 c2.2
      have f := fun W => orifice_calls a h c1.1 c1.2 c2.1 c2.2 W
      have C := Lib.hid c
      have D := Lib.hid d
      have F := Lib.hid f
      clear c d f c1 c2
      go_enter Try.func14, Try.ntmps14
      go_wp2_with fail
      refine (C.out _).mono ?_
      rintro e w1 ⟨rfl, rfl⟩
      go_wp2_with fail
      refine (D.out _).mono ?_
      rintro e w1 ⟨rfl, rfl⟩
      go_wp2_with fail
      refine (F.out _).mono ?_
      rintro e w1 ⟨rfl, hb1⟩
      go_wp2_with fail
      refine (flow_calls _ _).mono ?_
      rintro e w2 ⟨rfl, rfl⟩
      go_wp2_with fail
      go_returns
      exact ⟨rfl, hb1⟩
    · rw [if_neg (by omega)]
      have c := fun W => within_yes a 0 1073741824 W c1.1 c1.2
      have d := fun W => within_no h 0 1048576 W c2
      have C := Lib.hid c
      have D := Lib.hid d
      clear c d c1 c2
      go_enter Try.func14, Try.ntmps14
      go_wp2_with fail
      refine (C.out _).mono ?_
      rintro e w1 ⟨rfl, rfl⟩
      go_wp2_with fail
      refine (D.out _).mono ?_
      rintro e w1 ⟨rfl, rfl⟩
      go_wp2_with fail
      go_returns
      exact ⟨rfl, Below.refl _ _⟩
  · rw [if_neg (by omega)]
    have c := fun W => within_no a 0 1073741824 W c1
    have C := Lib.hid c
    clear c c1
    go_enter Try.func14, Try.ntmps14
    go_wp2_with fail
    refine (C.out _).mono ?_
    rintro e w1 ⟨rfl, rfl⟩
    go_wp2_with fail
    go_returns
    exact ⟨rfl, Below.refl _ _⟩

set_option maxHeartbeats 2000000 in
theorem Orifice_ref (a h : Int) (w : World) : Calls Try.prog 15 #[.int .i64 a, .int .i64 h] w fun e w' => e = .returned (.tuple #[.int .i64 (OrificeV a h).1, .int .i64 (OrificeV a h).2]) ∧ Below w.heap.size w w' := by
  unfold OrificeV
  by_cases c1 : 0 ≤ a
  · by_cases c2 : a ≤ 1073741824
    · by_cases c3 : 0 ≤ h
      · by_cases c4 : h ≤ 1048576
        · rw [if_pos ⟨c1, c2, c3, c4⟩]
          have r1 := mul_range c1 c2 c3 c4
          obtain ⟨r1a, r1b⟩ := r1
          have e : orifQ a.toNat h.toNat = isqrt ((a * 8829).toNat * (a * h).toNat / (1250000 : Int).toNat) := by
            unfold orifQ orifX
            rw [Int.toNat_mul c1 c3, Int.toNat_mul c1 (by omega)]
            congr 2
            simp only [Nat.mul_assoc, Nat.mul_comm, Nat.mul_left_comm]
            simp only [Int.reduceToNat]
          have d := fun W => root_ref (a * 8829) (a * h) 1250000 (by omega) r1a (by omega) (by omega) (by omega) (by omega) (orifQ a.toNat h.toNat) e (isqrt_le63 (orifX_lt (by omega) (by omega))) W
          have D := Lib.hid d
          have n1 : ¬ a < 0 := by omega
          have n2 : ¬ 1073741824 < a := by omega
          have n3 : ¬ h < 0 := by omega
          have n4 : ¬ 1048576 < h := by omega
          clear d e
          go_enter Try.func15, Try.ntmps15
          go_wp2_with fail
          refine (D.out _).mono ?_
          rintro e w1 ⟨rfl, hb1⟩
          go_wp2_with fail
          go_returns
          exact ⟨rfl, hb1⟩
        · rw [if_neg (by omega)]
          have n0 : ¬ a < 0 := by omega
          have n1 : ¬ 1073741824 < a := by omega
          have n2 : ¬ h < 0 := by omega
          have n3 : 1048576 < h := by omega
          go_enter Try.func15, Try.ntmps15
          go_wp2_with fail
          go_returns
          exact ⟨rfl, Below.refl _ _⟩
      · rw [if_neg (by omega)]
        have n0 : ¬ a < 0 := by omega
        have n1 : ¬ 1073741824 < a := by omega
        have n2 : h < 0 := by omega
        go_enter Try.func15, Try.ntmps15
        go_wp2_with fail
        go_returns
        exact ⟨rfl, Below.refl _ _⟩
    · rw [if_neg (by omega)]
      have n0 : ¬ a < 0 := by omega
      have n1 : 1073741824 < a := by omega
      go_enter Try.func15, Try.ntmps15
      go_wp2_with fail
      go_returns
      exact ⟨rfl, Below.refl _ _⟩
  · rw [if_neg (by omega)]
    have n0 : a < 0 := by omega
    go_enter Try.func15, Try.ntmps15
    go_wp2_with fail
    go_returns
    exact ⟨rfl, Below.refl _ _⟩
end Go.Proofs.Ytfalmbcnbomaoaa
