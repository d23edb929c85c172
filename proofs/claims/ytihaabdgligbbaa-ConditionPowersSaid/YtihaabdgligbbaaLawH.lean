/- The law ConditionPowers returns true. -/
import Derived.Test.YtihaabdgligbbaaAwake
import Derived.Test.YtihaabdgligbbaaPowLaw
import Derived.IntWalk
namespace Go.Proofs.Ytihaabdgligbbaa
open Go.RowKit
set_option linter.unusedVariables false

set_option maxRecDepth 100000 in
set_option maxHeartbeats 1000000 in
theorem Powers_out {A A' : Option Addr} {n c n' c' : Nat} {ts : List (List Int)} {l : List Int} (ya ma : Int) (w : World) (h : Tab w A n c ts) (h' : Ints w A' n' c' l) (e : ¬ givenE ts l = 0) :
    Calls Try.prog 10 #[.slice A n c, .slice A' n' c', .int .u8 ya, .int .u8 ma] w fun e w' => e = .returned (.bool true) ∧ Below w.heap.size w w' := by
  have e' : ((givenE ts l : Int) != 0) = true := by simp [e]
  have gv := fun W (I : Tab W A n c ts) (I' : Ints W A' n' c' l) => Given_ref50 W I I'
  generalize givenE ts l = x at *
  have H := Lib.hid h
  have H' := Lib.hid h'
  have GV := Lib.hid gv
  clear h h' gv e
  go_enter Try.func10, Try.ntmps10
  go_wp2_with fail
  refine (awake_calls _).mono ?_
  rintro e w1 ⟨rfl, b1⟩
  have T1 := Lib.hid (H.out.below b1)
  have I1 := Lib.hid (H'.out.below b1)
  have B1 := Lib.hid b1
  clear b1
  go_wp2_with fail
  refine (GV.out _ T1.out I1.out).mono ?_
  rintro e w2 ⟨rfl, rfl⟩
  go_wp2
  go_ret
  exact ⟨rfl, B1.out⟩

theorem pow_val {ts : List (List Int)} (hv : validT ts = true) (N : Nat) (hN : N ≤ 200) : PowV ts (N : Int) = (powL ts N, 0) := by
  unfold PowV; rw [if_pos hv, if_pos (by omega), Int.toNat_natCast]

set_option maxHeartbeats 4000000 in
set_option maxRecDepth 100000 in
theorem Powers_in {A A' : Option Addr} {n c n' c' : Nat} {ts : List (List Int)} {l : List Int} (ya ma : Int) (w : World) (h : Tab w A n c ts) (h' : Ints w A' n' c' l) (e : givenE ts l = 0)
    (N M : Nat) (hN : N ≤ 30) (hM : M ≤ 30) (y0 : 0 ≤ ya ∧ ya ≤ 255) (m0 : 0 ≤ ma ∧ ma ≤ 255) (hyN : ya % 31 = (N : Int)) (hmM : ma % 31 = (M : Int)) :
    Calls Try.prog 10 #[.slice A n c, .slice A' n' c', .int .u8 ya, .int .u8 ma] w fun e w' => e = .returned (.bool true) ∧ Below w.heap.size w w' := by
  have ok := yearOk_of e
  have gv := fun W (I : Tab W A n c ts) (I' : Ints W A' n' c' l) => Given_ref50 W I I'
  rw [e] at gv
  obtain ⟨y00, y01⟩ := y0
  obtain ⟨m00, m01⟩ := m0
  obtain ⟨S, hS⟩ : ∃ S : Nat, N + M = S := ⟨_, rfl⟩
  have hSi : (N : Int) + (M : Int) = (S : Int) := by omega
  have hcap := h.cap
  have hmax := h.max
  have p1 := fun W (I : Tab W A n c ts) => Power_calls (N : Int) W I
  have p2 := fun W (I : Tab W A n c ts) => Power_calls (S : Int) W I
  have p3 := fun W (I : Tab W A n c ts) => Power_calls 0 W I
  have p4 := fun W (I : Tab W A n c ts) => Power_calls 1 W I
  rw [pow_val ok.v N (by omega)] at p1
  rw [pow_val ok.v S (by omega)] at p2
  rw [show (0 : Int) = ((0 : Nat) : Int) from rfl, pow_val ok.v 0 (by omega)] at p3
  rw [show (1 : Int) = ((1 : Nat) : Int) from rfl, pow_val ok.v 1 (by omega), pow_one ok.v] at p4
  have ns := none_step ok
  have v1 := pow_valid ok.v N
  have v2 := pow_valid ok.v S
  have wo := fun i (hi : i < ts.length) => pow_wor (N := N) (M := M) ok.v hi
  rw [hS] at wo
  have hn8 : n ≤ 8 := by have := (validT_parts ok.v).2.1; rw [h.len] at this; exact this
  have lP := powL_length ts N
  have lQ := powL_length ts S
  rw [h.len] at lP lQ wo
  generalize powL ts N = P at *
  generalize powL ts S = Q at *
  generalize powL ts 0 = Z at *
  have H := Lib.hid h
  have H' := Lib.hid h'
  have GV := Lib.hid gv
  have P1 := Lib.hid p1
  have P2 := Lib.hid p2
  have P3 := Lib.hid p3
  have P4 := Lib.hid p4
  have NS := Lib.hid ns
  have VP1 := Lib.hid v1
  have VP2 := Lib.hid v2
  have WO := Lib.hid wo
  have LP := Lib.hid lP
  have LQ := Lib.hid lQ
  clear h h' gv e ok p1 p2 p3 p4 ns v1 v2 wo lP lQ hS
  go_enter Try.func10, Try.ntmps10
  go_wp2_with fail
  refine (awake_calls _).mono ?_
  rintro e w1 ⟨rfl, b1⟩
  have T1 := Lib.hid (H.out.below b1)
  have I1 := Lib.hid (H'.out.below b1)
  have B1 := Lib.hid b1
  clear b1
  go_wp2_with fail
  refine (GV.out _ T1.out I1.out).mono ?_
  rintro e w2 ⟨rfl, rfl⟩
  go_wp2_with fail
  refine (P1.out _ T1.out).mono ?_
  rintro e w3 ⟨A3, n3, c3, rfl, i3, b3⟩
  obtain rfl : n3 = n := by rw [← i3.len, LP.out]
  have T3 := Lib.hid (T1.out.below b3)
  have I3 := Lib.hid (I1.out.below b3)
  have J3 := Lib.hid i3
  have B3 := Lib.hid (below_then B1.out b3 B1.out.size)
  clear b3 i3
  go_wp2_with fail
  refine (P2.out _ T3.out).mono ?_
  rintro e w4 ⟨A4, n4, c4, rfl, i4, b4⟩
  obtain rfl : n4 = n3 := by rw [← i4.len, LQ.out]
  have T4 := Lib.hid (T3.out.below b4)
  have I4 := Lib.hid (I3.out.below b4)
  have J4 := Lib.hid (J3.out.below b4)
  have K4 := Lib.hid i4
  have B4 := Lib.hid (below_then B3.out b4 B3.out.size)
  clear b4 i4
  go_wp2_with fail
  refine (P3.out _ T4.out).mono ?_
  rintro e w5 ⟨A5, n5, c5, rfl, i5, b5⟩
  have T5 := Lib.hid (T4.out.below b5)
  have I5 := Lib.hid (I4.out.below b5)
  have J5 := Lib.hid (J4.out.below b5)
  have K5 := Lib.hid (K4.out.below b5)
  have L5 := Lib.hid i5
  have B5 := Lib.hid (below_then B4.out b5 B4.out.size)
  clear b5 i5
  go_wp2_with fail
  refine (P4.out _ T5.out).mono ?_
  rintro e w6 ⟨A6, n6, c6, rfl, i6, b6⟩
  have T6 := Lib.hid (T5.out.below b6)
  have I6 := Lib.hid (I5.out.below b6)
  have J6 := Lib.hid (J5.out.below b6)
  have K6 := Lib.hid (K5.out.below b6)
  have L6 := Lib.hid (L5.out.below b6)
  have M6 := Lib.hid i6
  have B6 := Lib.hid (below_then B5.out b6 B5.out.size)
  have va := Valid_calls w6 J6.out
  have vb := Valid_calls w6 K6.out
  rw [VP1.out] at va
  rw [VP2.out] at vb
  have VA := Lib.hid va
  have VB := Lib.hid vb
  have SM := Lib.hid (Same_same w6 i6 T6.out)
  have hne : ((n4 : Int) != (n4 : Int)) = false := by simp
  clear b6 i6 va vb
  go_wp2_with fail
  refine (VA.out).mono ?_
  rintro e w' ⟨rfl, rfl⟩
  go_wp2_with fail
  refine (VB.out).mono ?_
  rintro e w' ⟨rfl, rfl⟩
  go_wp2_with fail
  refine (SM.out).mono ?_
  rintro e w7 ⟨rfl, b7⟩
  have I7 := Lib.hid (I6.out.below b7)
  have J7 := Lib.hid (J6.out.below b7)
  have K7 := Lib.hid (K6.out.below b7)
  have L7 := Lib.hid (L6.out.below b7)
  have B7 := Lib.hid (below_then B6.out b7 B6.out.size)
  have hcj := J7.out.cap
  have hmj := J7.out.max
  have hck := K7.out.cap
  have hmk := K7.out.max
  clear b7 hne
  go_wp2
  go_loopw [106] (fun i wr => ∃ k : Nat, k ≤ n4 ∧ i = .int .i64 k ∧ ∃ d, wr = w7.drewN d) (fun i _ => n4 - (intOf i).toNat)
  case atStart => exact ⟨0, Nat.zero_le _, rfl, 0, rfl⟩
  case round =>
    obtain ⟨k, hk, rfl, d, rfl⟩ := hrel
    by_cases hlt : k < n4
    · obtain ⟨ad, X1, x1, y1, e, hl, hc, hi⟩ := J7.out.at_ hlt
      obtain ⟨ad', X2, x2, y2, e', hl', hc', hi'⟩ := K7.out.at_ hlt
      subst e e'
      have wk := (WO.out k hlt).val
      have wq : ∀ j, Calls Try.prog 32 #[.slice X2 x2 y2, .slice X1 x1 y1] (w7.drewN (d + j)) fun e w'' => e = .returned (.tuple #[.bool true, .int .i64 0]) ∧ ∃ mm, w'' = w7.drewN (d + mm) := fun j =>
        (Worse_q (w7.drewN (d + j)) (hi'.drewN _) (hi.drewN _)).mono fun _ _ ⟨he, x, hx⟩ => ⟨by rw [he, wk], j + x, by rw [hx, World.drewN_drewN, Nat.add_assoc]⟩
      have WQ := Lib.hid wq
      have e5 : (k : Int) < n4 := by omega
      have e6 : (0 : Int) ≤ k := by omega
      clear hi hi' wk wq
      go_wp2
      go_quiet ((go_at_call 32; exact WQ.out _))
      go_wp2
      go_roundw
      case rel => exact ⟨k + 1, by omega, by go_num, _, rfl⟩
      case measure => simp [intOf]; try omega
    · obtain rfl : k = n4 := by omega
      have st := Step_calls (w7.drewN d) (L7.out.drewN d) (I7.out.drewN d)
      rw [NS.out] at st
      have ST := Lib.hid st
      have B8 := Lib.hid (below_drewN B7.out d)
      have I8 := Lib.hid (I7.out.drewN d)
      clear st
      go_wp2_with fail
      refine (ST.out).mono ?_
      rintro e w9 ⟨A9, n9, c9, rfl, i9, b9, -⟩
      have B9 := Lib.hid (below_then B8.out b9 B8.out.size)
      have eq := equal_calls w9 i9 (I8.out.below b9)
      rw [decide_eq_true rfl] at eq
      have EQ := Lib.hid eq
      clear i9 b9 eq
      go_wp2_with fail
      refine (EQ.out).mono ?_
      rintro e w10 ⟨rfl, b10⟩
      have B10 := Lib.hid (below_then B9.out b10 B9.out.size)
      clear b10
      go_wp2
      go_ret
      exact ⟨rfl, B10.out⟩

theorem Powers_calls {A A' : Option Addr} {n c n' c' : Nat} {ts : List (List Int)} {l : List Int} (ya ma : Int) (w : World) (h : Tab w A n c ts) (h' : Ints w A' n' c' l) (y0 : 0 ≤ ya ∧ ya ≤ 255) (m0 : 0 ≤ ma ∧ ma ≤ 255) :
    Calls Try.prog 10 #[.slice A n c, .slice A' n' c', .int .u8 ya, .int .u8 ma] w fun e w' => e = .returned (.bool true) ∧ Below w.heap.size w w' := by
  by_cases e : givenE ts l = 0
  · exact Powers_in ya ma w h h' e (ya % 31).toNat (ma % 31).toNat (by omega) (by omega) y0 m0 (by omega) (by omega)
  · exact Powers_out ya ma w h h' e
end Go.Proofs.Ytihaabdgligbbaa
