/- The law ConditionKeeps returns true. -/
import Derived.Test.YtihaabdgligbbaaAwake
import Derived.Test.YtihaabdgligbbaaKeepLaw
import Derived.Test.YtihaabdgligbbaaDueLaw
import Derived.Test.YtihaabdgligbbaaCmp
namespace Go.Proofs.Ytihaabdgligbbaa
open Go.RowKit
set_option linter.unusedVariables false

set_option maxRecDepth 100000 in
set_option maxHeartbeats 1000000 in
theorem Keeps_out {A A' : Option Addr} {n c n' c' : Nat} {ts : List (List Int)} {l : List Int} (ya ma : Int) (w : World) (h : Tab w A n c ts) (h' : Ints w A' n' c' l) (e : ¬ givenE ts l = 0) :
    Calls Try.prog 9 #[.slice A n c, .slice A' n' c', .int .u8 ya, .int .u8 ma] w fun e w' => e = .returned (.bool true) ∧ Below w.heap.size w w' := by
  have e' : ((givenE ts l : Int) != 0) = true := by simp [e]
  have gv := fun W (I : Tab W A n c ts) (I' : Ints W A' n' c' l) => Given_ref50 W I I'
  generalize givenE ts l = x at *
  have H := Lib.hid h
  have H' := Lib.hid h'
  have GV := Lib.hid gv
  clear h h' gv e
  go_enter Try.func9, Try.ntmps9
  go_wp2_with fail
  refine (awake_calls _).mono ?_
  rintro e w1 ⟨rfl, b1⟩
  have T1 := Lib.hid (H.out.below b1)
  have I1 := Lib.hid (H'.out.below b1)
  have B1 := Lib.hid b1
  clear b1
  go_wp2_with fail
  refine (GV.out _ T1.out I1.out).mono ?_
  rintro e w2 ⟨rfl, rfl⟩
  go_wp2
  go_ret
  exact ⟨rfl, B1.out⟩

/-- What Expected answers before and after some more years. -/
def KeepVals (V1 V2 : (Int × Int) × Int) : Prop :=
  (∃ a b c d : Nat, V1 = (((a : Int), (b : Int)), 0) ∧ V2 = (((c : Int), (d : Int)), 0) ∧ FracOk a b ∧ FracOk c d ∧ (a * d < c * b ∨ a * d = c * b)) ∨
  (∃ p q x y, V1 = (p, x) ∧ V2 = (q, y) ∧ ((x = 0 ∧ y = 16) ∨ (x = 0 ∧ y = 5) ∨ (x = 16 ∧ y = 0) ∨ (x = 16 ∧ y = 16) ∨ (x = 16 ∧ y = 5) ∨ (x = 5 ∧ y = 0) ∨ (x = 5 ∧ y = 16) ∨ (x = 5 ∧ y = 5)))
theorem keepVals (N1 N2 D : Nat) (h : N1 ≤ N2) : KeepVals (MakeV N1 D) (MakeV N2 D) := by
  unfold KeepVals
  rcases make_err N1 D with h1 | h1 | h1
  · rcases make_err N2 D with h2 | h2 | h2
    · obtain ⟨hD, a, b, e1, a1, a2, a3, a4, a5, a6⟩ := make_ok h1
      obtain ⟨-, c, d, e2, b1, b2, b3, b4, b5, b6⟩ := make_ok h2
      exact .inl ⟨a, b, c, d, e1, e2, ⟨a4, a3, a5, a6⟩, ⟨b4, b3, b5, b6⟩, by have := frac_le h hD a1 a2 b1 b2; omega⟩
    · exact .inr ⟨(MakeV N1 D).1, _, (MakeV N1 D).2, _, rfl, h2, by omega⟩
    · exact .inr ⟨(MakeV N1 D).1, _, (MakeV N1 D).2, _, rfl, h2, by omega⟩
  · rcases make_err N2 D with h2 | h2 | h2
    · exact .inr ⟨_, (MakeV N2 D).1, _, (MakeV N2 D).2, h1, rfl, by omega⟩
    · exact .inr ⟨_, _, _, _, h1, h2, by omega⟩
    · exact .inr ⟨_, _, _, _, h1, h2, by omega⟩
  · rcases make_err N2 D with h2 | h2 | h2
    · exact .inr ⟨_, (MakeV N2 D).1, _, (MakeV N2 D).2, h1, rfl, by omega⟩
    · exact .inr ⟨_, _, _, _, h1, h2, by omega⟩
    · exact .inr ⟨_, _, _, _, h1, h2, by omega⟩
theorem after_ok {ts : List (List Int)} {l : List Int} (ok : YearOk ts l) (N : Nat) (hN : N ≤ 200) : AfterV ts l (N : Int) = (yearsL ts l N, 0) := by
  unfold AfterV; rw [if_pos (given_ok ok), if_pos (by omega), Int.toNat_natCast]
theorem exp_ok {ts : List (List Int)} {l : List Int} (ok : YearOk ts l) (N : Nat) (hN : N ≤ 200) : ExpV ts l (N : Int) = MakeV (gN (yearsL ts l N) (yearsL ts l N).length) (sumL l).toNat := by
  unfold ExpV; rw [after_ok ok N hN, if_pos rfl, (ok.years N).2.2]

set_option maxHeartbeats 4000000 in
set_option maxRecDepth 100000 in
theorem Keeps_in {A A' : Option Addr} {n c n' c' : Nat} {ts : List (List Int)} {l : List Int} (ya ma : Int) (w : World) (h : Tab w A n c ts) (h' : Ints w A' n' c' l) (e : givenE ts l = 0)
    (N M : Nat) (hN : N ≤ 30) (hM : M ≤ 30) (y0 : 0 ≤ ya ∧ ya ≤ 255) (m0 : 0 ≤ ma ∧ ma ≤ 255) (hyN : ya % 31 = (N : Int)) (hmM : ma % 31 = (M : Int)) :
    Calls Try.prog 9 #[.slice A n c, .slice A' n' c', .int .u8 ya, .int .u8 ma] w fun e w' => e = .returned (.bool true) ∧ Below w.heap.size w w' := by
  have ok := yearOk_of e
  have gv := fun W (I : Tab W A n c ts) (I' : Ints W A' n' c' l) => Given_ref50 W I I'
  rw [e] at gv
  obtain ⟨y00, y01⟩ := y0
  obtain ⟨m00, m01⟩ := m0
  obtain ⟨S, hS⟩ : ∃ S : Nat, N + M = S := ⟨_, rfl⟩
  have hSi : (N : Int) + (M : Int) = (S : Int) := by omega
  have hcap' := h'.cap
  have hmax' := h'.max
  have okN := (ok.years N).1
  have a1 := fun W (I : Tab W A n c ts) (I' : Ints W A' n' c' l) => After_calls (N : Int) W I I'
  have a2 := fun W (B : Option Addr) (m d : Nat) (I : Tab W A n c ts) (I' : Ints W B m d (yearsL ts l N)) => After_calls (M : Int) W I I'
  have a3 := fun W (I : Tab W A n c ts) (I' : Ints W A' n' c' l) => After_calls (S : Int) W I I'
  have x1 := fun W (I : Tab W A n c ts) (I' : Ints W A' n' c' l) => Expected_calls (N : Int) W I I'
  have x2 := fun W (I : Tab W A n c ts) (I' : Ints W A' n' c' l) => Expected_calls (S : Int) W I I'
  rw [after_ok ok N (by omega)] at a1
  rw [after_ok okN M (by omega), years_add, hS] at a2
  rw [after_ok ok S (by omega)] at a3
  rw [exp_ok ok N (by omega)] at x1
  rw [exp_ok ok S (by omega)] at x2
  have wa : Wor (yearsL ts l N) l := ok.wors N
  have wb : Wor (yearsL ts l S) (yearsL ts l N) := by rw [← hS, ← years_add]; exact okN.wors M
  have kv := keepVals _ _ (sumL l).toNat wb.gN
  have KV := Lib.hid kv
  generalize MakeV (gN (yearsL ts l N) (yearsL ts l N).length) (sumL l).toNat = V1 at *
  generalize MakeV (gN (yearsL ts l S) (yearsL ts l S).length) (sumL l).toNat = V2 at *
  generalize yearsL ts l N = La at *
  generalize yearsL ts l S = Lb at *
  have H := Lib.hid h
  have H' := Lib.hid h'
  have HL' := Lib.hid h'.len
  have GV := Lib.hid gv
  have A1 := Lib.hid a1
  have A2 := Lib.hid a2
  have A3 := Lib.hid a3
  have X1 := Lib.hid x1
  have X2 := Lib.hid x2
  have WA := Lib.hid wa
  have WB := Lib.hid wb
  have hn8 : n' ≤ 8 := by have := (stockB_parts ok.s).2.1; rw [h'.len] at this; exact this
  have hn1 : 0 < n' := by have := (stockB_parts ok.s).1; rw [h'.len] at this; omega
  clear h h' gv e ok okN a1 a2 a3 x1 x2 wa wb kv hS
  go_enter Try.func9, Try.ntmps9
  go_wp2_with fail
  refine (awake_calls _).mono ?_
  rintro e w1 ⟨rfl, b1⟩
  have T1 := Lib.hid (H.out.below b1)
  have I1 := Lib.hid (H'.out.below b1)
  have B1 := Lib.hid b1
  clear b1
  go_wp2_with fail
  refine (GV.out _ T1.out I1.out).mono ?_
  rintro e w2 ⟨rfl, rfl⟩
  go_wp2_with fail
  refine (A1.out _ T1.out I1.out).mono ?_
  rintro e w3 ⟨A3', n3, c3, rfl, i3, b3, -⟩
  obtain rfl : n3 = n' := by rw [← i3.len, WA.out.len, HL'.out]
  have T3 := Lib.hid (T1.out.below b3)
  have I3 := Lib.hid (I1.out.below b3)
  have J3 := Lib.hid i3
  have B3 := Lib.hid (below_then B1.out b3 B1.out.size)
  clear b3 i3
  go_wp2_with fail
  refine (A2.out _ _ _ _ T3.out J3.out).mono ?_
  rintro e w4 ⟨A4, n4, c4, rfl, i4, b4, -⟩
  obtain rfl : n4 = n3 := by rw [← i4.len, WB.out.len, WA.out.len, HL'.out]
  have T4 := Lib.hid (T3.out.below b4)
  have I4 := Lib.hid (I3.out.below b4)
  have J4 := Lib.hid (J3.out.below b4)
  have K4 := Lib.hid i4
  have B4 := Lib.hid (below_then B3.out b4 B3.out.size)
  clear b4 i4
  go_wp2_with fail
  refine (A3.out _ T4.out I4.out).mono ?_
  rintro e w5 ⟨A5, n5, c5, rfl, i5, b5, -⟩
  obtain rfl : n5 = n4 := by rw [← i5.len, WB.out.len, WA.out.len, HL'.out]
  have hne : ((n5 : Int) != (n5 : Int)) = false := by simp
  have T5 := Lib.hid (T4.out.below b5)
  have I5 := Lib.hid (I4.out.below b5)
  have J5 := Lib.hid (J4.out.below b5)
  have K5 := Lib.hid (K4.out.below b5)
  have B5 := Lib.hid (below_then B4.out b5 B4.out.size)
  have eq := equal_calls w5 K5.out i5
  rw [decide_eq_true rfl] at eq
  have EQ := Lib.hid eq
  clear b5 i5 eq
  go_wp2_with fail
  refine (EQ.out).mono ?_
  rintro e w6 ⟨rfl, b6⟩
  have T6 := Lib.hid (T5.out.below b6)
  have I6 := Lib.hid (I5.out.below b6)
  have J6 := Lib.hid (J5.out.below b6)
  have K6 := Lib.hid (K5.out.below b6)
  have B6 := Lib.hid (below_then B5.out b6 B5.out.size)
  have hcj := J6.out.cap
  have hmj := J6.out.max
  have hck := K6.out.cap
  have hmk := K6.out.max
  clear b6
  go_wp2
  go_loop [93] (fun i => ∃ k : Nat, k ≤ n5 ∧ i = .int .i64 k) (fun i => n5 - (intOf i).toNat)
  case atStart => exact ⟨0, Nat.zero_le _, rfl⟩
  case round =>
    obtain ⟨k, hk, rfl⟩ := hrel
    by_cases hlt : k < n5
    · have hLa : La.length = n5 := J6.out.len
      have hLb : Lb.length = n5 := K6.out.len
      have fa := fits_drop (stockB_parts WA.out.sa).2.2.1 (by omega) k
      have fl := fits_drop (stockB_parts WA.out.sb).2.2.1 (by rw [HL'.out]; omega) k
      have fb := fits_drop (stockB_parts WB.out.sa).2.2.1 (by omega) k
      have t1 := tail_calls k w6 J6.out hlt fa
      have t2 := tail_calls k w6 I6.out hlt fl
      have t3 := tail_calls k w6 K6.out hlt fb
      have c1 := WA.out.tl (show k ≤ La.length by omega)
      have c2 := WB.out.tl (show k ≤ Lb.length by omega)
      have c3 := (inB_el (stockB_parts WA.out.sa).2.2.1 (show k < La.length by omega)).1
      obtain ⟨ad, e, hl, hc⟩ := J6.out.at_ hlt
      subst e
      generalize tlS La k = xa at *
      generalize tlS Lb k = xb at *
      generalize tlS l k = xl at *
      generalize el La k = v at *
      have c1' : ¬ xa < xl := by omega
      have c2' : ¬ xb < xa := by omega
      have c3' : ¬ v < 0 := by omega
      have T1' := Lib.hid t1
      have T2' := Lib.hid t2
      have T3' := Lib.hid t3
      clear t1 t2 t3 fa fl fb hLa hLb c1 c2 c3
      go_wp2_with fail
      refine (T1'.out).mono ?_
      rintro e w' ⟨rfl, rfl⟩
      go_wp2_with fail
      refine (T2'.out).mono ?_
      rintro e w' ⟨rfl, rfl⟩
      go_wp2_with fail
      refine (T3'.out).mono ?_
      rintro e w' ⟨rfl, rfl⟩
      go_wp2_with fail
      refine (T1'.out).mono ?_
      rintro e w' ⟨rfl, rfl⟩
      go_wp2
      go_round
      case rel => exact ⟨k + 1, by omega, by go_num⟩
      case measure => simp [intOf]; try omega
    · obtain rfl : k = n5 := by omega
      have hLb : Lb.length = k := K6.out.len
      have t1 := tail_calls 0 w6 K6.out hn1 (fits_drop (stockB_parts WB.out.sa).2.2.1 (by omega) 0)
      have t2 := tail_calls 0 w6 I6.out hn1 (fits_drop (stockB_parts WA.out.sb).2.2.1 (by rw [HL'.out]; omega) 0)
      rw [show tlS Lb 0 = tlS l 0 from by show sumL Lb = sumL l; rw [WB.out.sum, WA.out.sum]] at t1
      generalize tlS l 0 = x at *
      have hx : ((x : Int) != x) = false := by simp
      have T1' := Lib.hid t1
      have T2' := Lib.hid t2
      have wc := Worse_calls w6 J6.out I6.out
      rw [WA.out.val] at wc
      have WC := Lib.hid wc
      clear t1 t2 wc hLb
      go_wp2_with fail
      refine (T1'.out).mono ?_
      rintro e w' ⟨rfl, rfl⟩
      go_wp2_with fail
      refine (T2'.out).mono ?_
      rintro e w' ⟨rfl, rfl⟩
      go_wp2_with fail
      refine (WC.out).mono ?_
      rintro e w7 ⟨rfl, b7⟩
      have T7 := Lib.hid (T6.out.below b7)
      have I7 := Lib.hid (I6.out.below b7)
      have B7 := Lib.hid (below_then B6.out b7 B6.out.size)
      clear b7 hx
      go_wp2_with fail
      refine (X1.out _ T7.out I7.out).mono ?_
      rintro e w8 ⟨rfl, b8⟩
      have T8 := Lib.hid ((T7.out.below b8).alloc (fracO V1.1.1 V1.1.2))
      have I8 := Lib.hid ((I7.out.below b8).alloc (fracO V1.1.1 V1.1.2))
      have P8 := Lib.hid (Pair.made w8 V1.1.1 V1.1.2)
      have B8 := Lib.hid ((below_then B7.out b8 B7.out.size).alloc (by have := B7.out.size; have := b8.size; omega) (fracO V1.1.1 V1.1.2))
      clear b8
      go_wp2_with fail
      refine (X2.out _ T8.out I8.out).mono ?_
      rintro e w9 ⟨rfl, b9⟩
      have p9 := (P8.out.below b9).alloc (fracO V2.1.1 V2.1.2)
      have q9 := Pair.made w9 V2.1.1 V2.1.2
      have B9 := Lib.hid ((below_then B8.out b9 B8.out.size).alloc (by have := B8.out.size; have := b9.size; omega) (fracO V2.1.1 V2.1.2))
      have lw : w8.heap.size < w9.heap.size := by have := b9.size; simp at this; omega
      clear b9
      rcases KV.out with ⟨a, b, c', d, rfl, rfl, f1, f2, hh⟩ | ⟨p, q, x', y', rfl, rfl, hh⟩
      · rcases hh with hh | hh
        · have cc := fun W => Cmp_lt a b c' d f1 f2 W hh
          have CC := Lib.hid cc
          obtain ⟨p0, p1, pl⟩ := p9
          obtain ⟨q0, q1, ql⟩ := q9
          clear cc hh f1 f2
          go_wp2_with fail
          refine (CC.out _).mono ?_
          rintro e w10 ⟨rfl, b10⟩
          have B10 := Lib.hid (below_then B9.out b10 B9.out.size)
          clear b10
          go_wp2
          go_ret
          exact ⟨rfl, B10.out⟩
        · have cc := fun W => Cmp_eq a b c' d f1 f2 W hh
          have CC := Lib.hid cc
          obtain ⟨p0, p1, pl⟩ := p9
          obtain ⟨q0, q1, ql⟩ := q9
          clear cc hh f1 f2
          go_wp2_with fail
          refine (CC.out _).mono ?_
          rintro e w10 ⟨rfl, b10⟩
          have B10 := Lib.hid (below_then B9.out b10 B9.out.size)
          clear b10
          go_wp2
          go_ret
          exact ⟨rfl, B10.out⟩
      · clear p9 q9
        rcases hh with ⟨rfl, rfl⟩ | ⟨rfl, rfl⟩ | ⟨rfl, rfl⟩ | ⟨rfl, rfl⟩ | ⟨rfl, rfl⟩ | ⟨rfl, rfl⟩ | ⟨rfl, rfl⟩ | ⟨rfl, rfl⟩
        all_goals (
          go_wp2
          go_ret
          exact ⟨rfl, B9.out⟩)

theorem Keeps_calls {A A' : Option Addr} {n c n' c' : Nat} {ts : List (List Int)} {l : List Int} (ya ma : Int) (w : World) (h : Tab w A n c ts) (h' : Ints w A' n' c' l) (y0 : 0 ≤ ya ∧ ya ≤ 255) (m0 : 0 ≤ ma ∧ ma ≤ 255) :
    Calls Try.prog 9 #[.slice A n c, .slice A' n' c', .int .u8 ya, .int .u8 ma] w fun e w' => e = .returned (.bool true) ∧ Below w.heap.size w w' := by
  by_cases e : givenE ts l = 0
  · exact Keeps_in ya ma w h h' e (ya % 31).toNat (ma % 31).toNat (by omega) (by omega) y0 m0 (by omega) (by omega)
  · exact Keeps_out ya ma w h h' e
end Go.Proofs.Ytihaabdgligbbaa
