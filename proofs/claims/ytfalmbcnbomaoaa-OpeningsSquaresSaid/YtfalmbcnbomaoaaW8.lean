/- the law OpeningsSquares returns true -/
import Derived.Test.YtfalmbcnbomaoaaW7
namespace Go.Proofs.Ytfalmbcnbomaoaa
open Go.Proofs.Ytfalmbcnbomaoaa.DivLaw Go.Proofs.Ytfalmbcnbomaoaa.Open Go.RowKit
set_option linter.unusedVariables false

/-- What the law on squares asks of the numbers. -/
theorem sq_weir (b h : Nat) (hb : b ≤ 10000) (hh : h ≤ 2000) (hm : b * b * h % 1000 = 0) :
    weirQ b h * weirQ b h * 100 ≤ b * b * h / 1000 * (h * h * 289) ∧ b * b * h / 1000 * (h * h * 289) < (weirQ b h + 1) * (weirQ b h + 1) * 100 :=
  weir_square hb hh (by omega)

set_option maxHeartbeats 4000000 in
theorem Squares_walk (b h a q o bb bbh m hh x qq pp aa y oo rr : Int) (b1 : 1 ≤ b) (b2 : b ≤ 10000) (h1 : 0 ≤ h) (h2 : h ≤ 2000) (a1 : 0 ≤ a) (a2 : a ≤ 1000000) (q1 : 0 ≤ q) (q2 : q ≤ 67108864) (o1 : 0 ≤ o) (o2 : o ≤ 16777216)
    (e1 : b * b = bb) (e1a : 0 ≤ bb) (e1b : bb ≤ 100000000) (e2 : bb * h = bbh) (e2a : 0 ≤ bbh) (e2b : bbh ≤ 200000000000) (e3 : bbh / 1000 = m) (e3a : 0 ≤ m) (e3b : m ≤ 200000000) (e4 : h * h = hh) (e4a : 0 ≤ hh) (e4b : hh ≤ 4000000)
    (e5 : m * (hh * 289) = x) (e5a : 0 ≤ x) (e5b : x ≤ 231200000000000000) (e6 : q * q = qq) (e6a : 0 ≤ qq) (e6b : qq ≤ 4503599627370496) (e7 : (q + 1) * (q + 1) = pp) (e7a : 0 ≤ pp) (e7b : pp ≤ 4503599761588225)
    (e8 : a * a = aa) (e8a : 0 ≤ aa) (e8b : aa ≤ 1000000000000) (e9 : aa * h = y) (e9a : 0 ≤ y) (e9b : y ≤ 2000000000000000) (e10 : o * o = oo) (e10a : 0 ≤ oo) (e10b : oo ≤ 281474976710656) (e11 : (o + 1) * (o + 1) = rr) (e11a : 0 ≤ rr) (e11b : rr ≤ 281475010265089)
    (hs : bbh % 1000 = 0 → qq * 100 ≤ x ∧ x < pp * 100) (ho : oo * 1250000 ≤ y * 8829 ∧ y * 8829 < rr * 1250000) (hrr : Hid (rr = oo + 2 * o + 1))
    (cw : ∀ W, Calls Try.prog 12 #[.int .i64 b, .int .i64 h] W fun e w' => e = .returned (.tuple #[.int .i64 q, .int .i64 0]) ∧ Below W.heap.size W w')
    (co : ∀ W, Calls Try.prog 14 #[.int .i64 a, .int .i64 h] W fun e w' => e = .returned (.tuple #[.int .i64 o, .int .i64 0]) ∧ Below W.heap.size W w') (w : World) :
    Calls Try.prog 4 #[.int .i64 b, .int .i64 a, .int .i64 h] w fun e w' => e = .returned (.bool true) ∧ Below w.heap.size w w' := by
  have CW := Lib.hid cw
  have CO := Lib.hid co
  have d0 : ¬ b < 1 := by omega
  have d1 : ¬ 10000 < b := by omega
  have d2 : ¬ h < 0 := by omega
  have d3 : ¬ 2000 < h := by omega
  have d4 : ¬ a < 0 := by omega
  have d5 : ¬ 1000000 < a := by omega
  have d6 : ¬ q < 0 := by omega
  have d7 : ¬ 67108864 < q := by omega
  have d8 : ¬ o < 0 := by omega
  have d9 : ¬ 16777216 < o := by omega
  clear cw co
  by_cases cm : bbh % 1000 = 0
  · have s1 : ¬ x < qq * 100 := by have := (hs cm).1; omega
    have s2 : ¬ pp * 100 ≤ x := by have := (hs cm).2; omega
    have cm' : (bbh % 1000 == 0) = true := by rw [beq_iff_eq]; exact cm
    clear hs cm
    by_cases cy : 562949953421312 < y
    · clear ho
      go_enter Try.func4, Try.ntmps4
      go_wp2_with fail
      refine (awake_calls _).mono ?_
      rintro e w1 ⟨rfl, hb1⟩
      go_wp2_with fail
      refine (CW.out _).mono ?_
      rintro e w2 ⟨rfl, hb2⟩
      go_wp2_with fail
      refine (CO.out _).mono ?_
      rintro e w3 ⟨rfl, hb3⟩
      go_wp2_with fail
      go_returns
      exact ⟨rfl, below_then (below_then hb1 hb2) hb3⟩
    · obtain ⟨o3, o4⟩ := ho
      have y1 : y * 8829 ≤ 4970285138757763648 := by omega
      have r1 : rr * 1250000 ≤ 9223372036854775807 := by have := hrr.out; omega
      go_enter Try.func4, Try.ntmps4
      go_wp2_with fail
      refine (awake_calls _).mono ?_
      rintro e w1 ⟨rfl, hb1⟩
      go_wp2_with fail
      refine (CW.out _).mono ?_
      rintro e w2 ⟨rfl, hb2⟩
      go_wp2_with fail
      refine (CO.out _).mono ?_
      rintro e w3 ⟨rfl, hb3⟩
      go_wp2_with fail
      go_returns
      exact ⟨rfl, below_then (below_then hb1 hb2) hb3⟩
  · have cm' : (bbh % 1000 == 0) = false := by rw [beq_eq_false_iff_ne]; exact cm
    clear hs cm
    by_cases cy : 562949953421312 < y
    · clear ho
      go_enter Try.func4, Try.ntmps4
      go_wp2_with fail
      refine (awake_calls _).mono ?_
      rintro e w1 ⟨rfl, hb1⟩
      go_wp2_with fail
      refine (CW.out _).mono ?_
      rintro e w2 ⟨rfl, hb2⟩
      go_wp2_with fail
      refine (CO.out _).mono ?_
      rintro e w3 ⟨rfl, hb3⟩
      go_wp2_with fail
      go_returns
      exact ⟨rfl, below_then (below_then hb1 hb2) hb3⟩
    · obtain ⟨o3, o4⟩ := ho
      have y1 : y * 8829 ≤ 4970285138757763648 := by omega
      have r1 : rr * 1250000 ≤ 9223372036854775807 := by have := hrr.out; omega
      go_enter Try.func4, Try.ntmps4
      go_wp2_with fail
      refine (awake_calls _).mono ?_
      rintro e w1 ⟨rfl, hb1⟩
      go_wp2_with fail
      refine (CW.out _).mono ?_
      rintro e w2 ⟨rfl, hb2⟩
      go_wp2_with fail
      refine (CO.out _).mono ?_
      rintro e w3 ⟨rfl, hb3⟩
      go_wp2_with fail
      go_returns
      exact ⟨rfl, below_then (below_then hb1 hb2) hb3⟩

theorem Squares_in (width area head : Int) (c0 : 1 ≤ width) (c1 : width ≤ 10000) (c2 : 0 ≤ head) (c3 : head ≤ 2000) (c4 : 0 ≤ area) (c5 : area ≤ 1000000) (w : World) :
    Calls Try.prog 4 #[.int .i64 width, .int .i64 area, .int .i64 head] w fun e w' => e = .returned (.bool true) ∧ Below w.heap.size w w' := by
  obtain ⟨b, rfl⟩ := Int.eq_ofNat_of_zero_le (show 0 ≤ width by omega)
  obtain ⟨h, rfl⟩ := Int.eq_ofNat_of_zero_le c2
  obtain ⟨a, rfl⟩ := Int.eq_ofNat_of_zero_le c4
  have q1 := weirQ_small (b := b) (h := h) (by omega) (by omega)
  have q2 := orifQ_small (a := a) (h := h) (by omega) (by omega)
  have hw := fun hm => sq_weir b h (by omega) (by omega) hm
  have ho := orif_square (a := a) (h := h) (by omega) (by omega)
  have cw := fun W => Weir_calls (b : Int) (h : Int) W
  have co := fun W => Orifice_calls (a : Int) (h : Int) W
  rw [show WeirV (b : Int) (h : Int) = (((weirQ b h : Nat) : Int), (0 : Int)) from by unfold WeirV; rw [if_pos ⟨c0, by omega, by omega, by omega⟩]; unfold wq; rw [Int.toNat_natCast, Int.toNat_natCast]; exact flowV_ok (by omega)] at cw
  rw [show OrificeV (a : Int) (h : Int) = (((orifQ a h : Nat) : Int), (0 : Int)) from by unfold OrificeV; rw [if_pos ⟨by omega, by omega, by omega, by omega⟩]; unfold oq; rw [Int.toNat_natCast, Int.toNat_natCast]; exact flowV_ok (by omega)] at co
  generalize weirQ b h = q at *
  generalize orifQ a h = o at *
  have r1 := mul_range (show (0 : Int) ≤ b by omega) c1 (show (0 : Int) ≤ b by omega) c1
  have r2 := mul_range r1.1 r1.2 c2 c3
  have r3 := mul_range c2 c3 c2 c3
  have r4 := mul_range (a := (b : Int) * b * h / 1000) (A := 200000000) (b := (h : Int) * h * 289) (B := 1156000000) (by omega) (by omega) (by omega) (by omega)
  have r5 := mul_range (show (0 : Int) ≤ q by omega) (show (q : Int) ≤ 67108864 by omega) (show (0 : Int) ≤ q by omega) (show (q : Int) ≤ 67108864 by omega)
  have r6 := mul_range (show (0 : Int) ≤ (q : Int) + 1 by omega) (show (q : Int) + 1 ≤ 67108865 by omega) (show (0 : Int) ≤ (q : Int) + 1 by omega) (show (q : Int) + 1 ≤ 67108865 by omega)
  have r7 := mul_range c4 c5 c4 c5
  have r8 := mul_range r7.1 r7.2 c2 c3
  have r9 := mul_range (show (0 : Int) ≤ o by omega) (show (o : Int) ≤ 16777216 by omega) (show (0 : Int) ≤ o by omega) (show (o : Int) ≤ 16777216 by omega)
  have r10 := mul_range (show (0 : Int) ≤ (o : Int) + 1 by omega) (show (o : Int) + 1 ≤ 16777217 by omega) (show (0 : Int) ≤ (o : Int) + 1 by omega) (show (o : Int) + 1 ≤ 16777217 by omega)
  refine Squares_walk b h a q o _ _ _ _ _ _ _ _ _ _ _ c0 c1 c2 c3 c4 c5 (by omega) (by omega) (by omega) (by omega) rfl r1.1 r1.2 rfl r2.1 r2.2 rfl (by omega) (by omega) rfl r3.1 r3.2 rfl r4.1 r4.2 rfl r5.1 r5.2 rfl r6.1 r6.2 rfl r7.1 r7.2 rfl r8.1 r8.2 rfl r9.1 r9.2 rfl r10.1 r10.2 ?_ ?_ (Lib.hid ?_) cw co w
  · intro hm
    have hn : b * b * h % 1000 = 0 := by
      rw [← Int.natCast_mul, ← Int.natCast_mul] at hm
      omega
    have t1 := Int.ofNat_le.2 (hw hn).1
    have t2 := Int.ofNat_lt.2 (hw hn).2
    simp only [Int.natCast_mul, Int.natCast_ediv, Int.natCast_add] at t1 t2
    exact ⟨t1, t2⟩
  · have t1 := Int.ofNat_le.2 ho.1
    have t2 := Int.ofNat_lt.2 ho.2
    simp only [Int.natCast_mul, Int.natCast_add] at t1 t2
    exact ⟨t1, t2⟩
  · rw [Int.add_mul, Int.mul_add]; omega

set_option maxHeartbeats 2000000 in
theorem Squares_calls (width area head : Int) (w : World) : Calls Try.prog 4 #[.int .i64 width, .int .i64 area, .int .i64 head] w fun e w' => e = .returned (.bool true) ∧ Below w.heap.size w w' := by
  by_cases c0 : 1 ≤ width
  · by_cases c1 : width ≤ 10000
    · by_cases c2 : 0 ≤ head
      · by_cases c3 : head ≤ 2000
        · by_cases c4 : 0 ≤ area
          · by_cases c5 : area ≤ 1000000
            · exact Squares_in width area head c0 c1 c2 c3 c4 c5 w
            · have d0 : ¬ width < 1 := by omega
              have d1 : ¬ 10000 < width := by omega
              have d2 : ¬ head < 0 := by omega
              have d3 : ¬ 2000 < head := by omega
              have d4 : ¬ area < 0 := by omega
              have d5 : 1000000 < area := by omega
              go_enter Try.func4, Try.ntmps4
              go_wp2_with fail
              refine (awake_calls _).mono ?_
              rintro e w1 ⟨rfl, hb1⟩
              go_wp2_with fail
              go_returns
              exact ⟨rfl, hb1⟩
          · have d0 : ¬ width < 1 := by omega
            have d1 : ¬ 10000 < width := by omega
            have d2 : ¬ head < 0 := by omega
            have d3 : ¬ 2000 < head := by omega
            have d4 : area < 0 := by omega
            go_enter Try.func4, Try.ntmps4
            go_wp2_with fail
            refine (awake_calls _).mono ?_
            rintro e w1 ⟨rfl, hb1⟩
            go_wp2_with fail
            go_returns
            exact ⟨rfl, hb1⟩
        · have d0 : ¬ width < 1 := by omega
          have d1 : ¬ 10000 < width := by omega
          have d2 : ¬ head < 0 := by omega
          have d3 : 2000 < head := by omega
          go_enter Try.func4, Try.ntmps4
          go_wp2_with fail
          refine (awake_calls _).mono ?_
          rintro e w1 ⟨rfl, hb1⟩
          go_wp2_with fail
          go_returns
          exact ⟨rfl, hb1⟩
      · have d0 : ¬ width < 1 := by omega
        have d1 : ¬ 10000 < width := by omega
        have d2 : head < 0 := by omega
        go_enter Try.func4, Try.ntmps4
        go_wp2_with fail
        refine (awake_calls _).mono ?_
        rintro e w1 ⟨rfl, hb1⟩
        go_wp2_with fail
        go_returns
        exact ⟨rfl, hb1⟩
    · have d0 : ¬ width < 1 := by omega
      have d1 : 10000 < width := by omega
      go_enter Try.func4, Try.ntmps4
      go_wp2_with fail
      refine (awake_calls _).mono ?_
      rintro e w1 ⟨rfl, hb1⟩
      go_wp2_with fail
      go_returns
      exact ⟨rfl, hb1⟩
  · have d0 : width < 1 := by omega
    go_enter Try.func4, Try.ntmps4
    go_wp2_with fail
    refine (awake_calls _).mono ?_
    rintro e w1 ⟨rfl, hb1⟩
    go_wp2_with fail
    go_returns
    exact ⟨rfl, hb1⟩
end Go.Proofs.Ytfalmbcnbomaoaa
