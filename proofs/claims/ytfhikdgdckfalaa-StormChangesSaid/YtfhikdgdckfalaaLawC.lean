/- The law StormChanges returns true. -/
import Derived.Test.YtfhikdgdckfalaaMB18
import Derived.Test.YtfhikdgdckfalaaMB13
import Derived.Test.YtfhikdgdckfalaaShiftR
import Derived.Test.YtfhikdgdckfalaaScaleR
import Derived.Test.YtfhikdgdckfalaaJoinR
import Derived.Test.YtfhikdgdckfalaaLong20
namespace Go.Proofs.Ytfhikdgdckfalaa
open Go.RowKit
set_option linter.unusedVariables false

set_option maxHeartbeats 4000000 in
set_option maxRecDepth 100000 in
theorem Changes_calls {A A' : Option Addr} {n c n' c' : Nat} {ds ds' : List Int} {f st f' st' : Int} (b num den : Int) (w : World) (h : Ints w A n c ds) (bf : -9223372036854775808 ≤ f ∧ f ≤ 9223372036854775807) (bs : -9223372036854775808 ≤ st ∧ st ≤ 9223372036854775807)
    (h' : Ints w A' n' c' ds') (bf' : -9223372036854775808 ≤ f' ∧ f' ≤ 9223372036854775807) (bs' : -9223372036854775808 ≤ st' ∧ st' ≤ 9223372036854775807) (bb : -9223372036854775808 ≤ b ∧ b ≤ 9223372036854775807) (bn : -9223372036854775808 ≤ num ∧ num ≤ 9223372036854775807) (bd : -9223372036854775808 ≤ den ∧ den ≤ 9223372036854775807) :
    Calls Try.prog 8 #[serA f st A n c, serA f' st' A' n' c', .int .i64 b, .int .i64 num, .int .i64 den] w fun e w' => e = .returned (.bool true) ∧ Below w.heap.size w w' := by
  obtain ⟨Wa, hWa⟩ : ∃ Wa, w.alloc (serO f st A n c) = Wa := ⟨_, rfl⟩
  obtain ⟨Wb, hWb⟩ : ∃ Wb, Wa.alloc (serO f' st' A' n' c') = Wb := ⟨_, rfl⟩
  have ha : Below w.heap.size w Wa := by rw [← hWa]; exact (Below.refl _ _).alloc (Nat.le_refl _) _
  have hb : Below w.heap.size w Wb := by rw [← hWb]; exact ha.alloc ha.size _
  have x0 : KSer Wb w.heap.size ⟨f, st, ds⟩ A n c := by
    have : KSer Wa w.heap.size ⟨f, st, ds⟩ A n c := by rw [← hWa]; exact ⟨h.alloc _, SBox.made _ _ _ _ _ _⟩
    rw [← hWb]
    exact this.below ((Below.refl _ _).alloc (Nat.le_refl _) _)
  have y0 : KSer Wb Wa.heap.size ⟨f', st', ds'⟩ A' n' c' := by rw [← hWb]; exact ⟨(h'.below ha).alloc _, SBox.made _ _ _ _ _ _⟩
  have B0 := Lib.hid hb
  have X0 := Lib.hid x0
  have Y0 := Lib.hid y0
  have hcap := h.cap
  have hmax := h.max
  have hcap' := h'.cap
  have hmax' := h'.max
  have L1 := Lib.hid (fun W => long_calls n W)
  have L2 := Lib.hid (fun W => long_calls n' W)
  have S1 := Lib.hid (fun W (I : Ints W A n c ds) => Shift_calls f st b W I)
  have S2 := Lib.hid (fun W (I : Ints W A n c ds) => Shift_ref f st b W I)
  have C1 := Lib.hid (fun W (I : Ints W A n c ds) => Scale_calls ⟨f, st, ds⟩ num den W I)
  have C2 := Lib.hid (fun W (I : Ints W A n c ds) => Scale_ref ⟨f, st, ds⟩ num den W I)
  have J1 := Lib.hid (fun W (I : Ints W A n c ds) (J : Ints W A' n' c' ds') => Join_calls ⟨f, st, ds⟩ ⟨f', st', ds'⟩ W I J)
  have J2 := Lib.hid (fun W (I : Ints W A n c ds) (J : Ints W A' n' c' ds') => Join_ref ⟨f, st, ds⟩ ⟨f', st', ds'⟩ W I J)
  generalize shiftV f st ds b = V1 at *
  generalize scaleV ⟨f, st, ds⟩ num den = V2 at *
  generalize joinV ⟨f, st, ds⟩ ⟨f', st', ds'⟩ = V3 at *
  obtain ⟨⟨sf, ss, sl⟩, sx⟩ := V1
  obtain ⟨⟨cf, cs, cl⟩, cx⟩ := V2
  obtain ⟨⟨jf, js, jl⟩, jx⟩ := V3
  dsimp only at C1 C2 J1 J2
  clear h h' ha hb x0 y0 bf bs bf' bs' bb bn bd
  cases q1 : longB n
  · cases q2 : longB n'
    · simp only [q1] at L1
      simp only [q2] at L2
      clear q1 q2
      go_enter Try.func8, Try.ntmps8
      go_wp2_with fail
      refine (awake_calls _).mono ?_
      rintro e w1 ⟨rfl, b1⟩
      have B1 := Lib.hid (below_then B0.out b1 B0.out.size)
      have X1 := Lib.hid (X0.out.below b1)
      have Y1 := Lib.hid (Y0.out.below b1)
      obtain ⟨a0, a1, a2⟩ := X1.out.cells
      obtain ⟨d0, d1, d2⟩ := Y1.out.cells
      dsimp only at a0 a1 a2 d0 d1 d2
      clear b1 X0 Y0 B0 hWa hWb
      go_wp2_with fail
      refine (L1.out _).mono ?_
      rintro e w2 ⟨rfl, rfl⟩
      go_wp2_with fail
      refine (L2.out _).mono ?_
      rintro e w2 ⟨rfl, rfl⟩
      go_wp2_with fail
      refine (S1.out _ X1.out.i).mono ?_
      rintro e w3 ⟨A3, n3, c3, rfl, i3, b3, -⟩
      obtain ⟨W3, hW3, k3, b3'⟩ := keep_ser i3 b3
      dsimp only at hW3
      have K3 := Lib.hid k3
      have X3 := Lib.hid (X1.out.below b3')
      have Y3 := Lib.hid (Y1.out.below b3')
      have B3 := Lib.hid (below_then B1.out b3' B1.out.size)
      clear i3 b3 k3 b3' a0 a1 a2 d0 d1 d2 X1 Y1 B1
      obtain ⟨a0, a1, a2⟩ := X3.out.cells
      dsimp only at a0 a1 a2
      go_wp2_with fail
      refine (S2.out _ X3.out.i).mono ?_
      rintro e w4 ⟨A4, n4, c4, rfl, i4, b4, -⟩
      obtain ⟨W4, hW4, k4, b4'⟩ := keep_ser i4 b4
      dsimp only at hW4
      have K4 := Lib.hid k4
      have K3 := Lib.hid (K3.out.below b4')
      have X4 := Lib.hid (X3.out.below b4')
      have Y4 := Lib.hid (Y3.out.below b4')
      have B4 := Lib.hid (below_then B3.out b4' B3.out.size)
      clear i4 b4 k4 b4' a0 a1 a2 X3 Y3 B3 hW3
      obtain ⟨a0, a1, a2⟩ := X4.out.cells
      dsimp only at a0 a1 a2
      go_wp2_with fail
      refine (C1.out _ X4.out.i).mono ?_
      rintro e w5 ⟨A5, n5, c5, rfl, i5, b5, -⟩
      obtain ⟨W5, hW5, k5, b5'⟩ := keep_ser i5 b5
      dsimp only at hW5
      have K5 := Lib.hid k5
      have K3 := Lib.hid (K3.out.below b5')
      have K4 := Lib.hid (K4.out.below b5')
      have X5 := Lib.hid (X4.out.below b5')
      have Y5 := Lib.hid (Y4.out.below b5')
      have B5 := Lib.hid (below_then B4.out b5' B4.out.size)
      clear i5 b5 k5 b5' a0 a1 a2 X4 Y4 B4 hW4
      obtain ⟨a0, a1, a2⟩ := X5.out.cells
      dsimp only at a0 a1 a2
      go_wp2_with fail
      refine (C2.out _ X5.out.i).mono ?_
      rintro e w6 ⟨A6, n6, c6, rfl, i6, b6, -⟩
      obtain ⟨W6, hW6, k6, b6'⟩ := keep_ser i6 b6
      dsimp only at hW6
      have K6 := Lib.hid k6
      have K3 := Lib.hid (K3.out.below b6')
      have K4 := Lib.hid (K4.out.below b6')
      have K5 := Lib.hid (K5.out.below b6')
      have X6 := Lib.hid (X5.out.below b6')
      have Y6 := Lib.hid (Y5.out.below b6')
      have B6 := Lib.hid (below_then B5.out b6' B5.out.size)
      clear i6 b6 k6 b6' a0 a1 a2 X5 Y5 B5 hW5
      obtain ⟨a0, a1, a2⟩ := X6.out.cells
      obtain ⟨d0, d1, d2⟩ := Y6.out.cells
      dsimp only at a0 a1 a2 d0 d1 d2
      go_wp2_with fail
      refine (J1.out _ X6.out.i Y6.out.i).mono ?_
      rintro e w7 ⟨A7, n7, c7, rfl, i7, b7, -⟩
      obtain ⟨W7, hW7, k7, b7'⟩ := keep_ser i7 b7
      dsimp only at hW7
      have K7 := Lib.hid k7
      have K3 := Lib.hid (K3.out.below b7')
      have K4 := Lib.hid (K4.out.below b7')
      have K5 := Lib.hid (K5.out.below b7')
      have K6 := Lib.hid (K6.out.below b7')
      have X7 := Lib.hid (X6.out.below b7')
      have Y7 := Lib.hid (Y6.out.below b7')
      have B7 := Lib.hid (below_then B6.out b7' B6.out.size)
      clear i7 b7 k7 b7' a0 a1 a2 d0 d1 d2 X6 Y6 B6 hW6
      obtain ⟨a0, a1, a2⟩ := X7.out.cells
      obtain ⟨d0, d1, d2⟩ := Y7.out.cells
      dsimp only at a0 a1 a2 d0 d1 d2
      go_wp2_with fail
      refine (J2.out _ X7.out.i Y7.out.i).mono ?_
      rintro e w8 ⟨A8, n8, c8, rfl, i8, b8, -⟩
      obtain ⟨W8, hW8, k8, b8'⟩ := keep_ser i8 b8
      dsimp only at hW8
      have K8 := Lib.hid k8
      have K3 := Lib.hid (K3.out.below b8')
      have K4 := Lib.hid (K4.out.below b8')
      have K5 := Lib.hid (K5.out.below b8')
      have K6 := Lib.hid (K6.out.below b8')
      have K7 := Lib.hid (K7.out.below b8')
      have B8 := Lib.hid (below_then B7.out b8' B7.out.size)
      clear i8 b8 k8 b8' a0 a1 a2 d0 d1 d2 X7 Y7 B7 hW7 S1 S2 C1 C2 J1 J2 L1 L2
      have Q1 := Lib.hid (Same_ser sf ss W8 K3.out.i K4.out.i)
      obtain ⟨a0, a1, a2⟩ := K3.out.cells
      obtain ⟨d0, d1, d2⟩ := K4.out.cells
      dsimp only at a0 a1 a2 d0 d1 d2
      go_wp2_with fail
      refine (Q1.out).mono ?_
      rintro e w9 ⟨rfl, b9⟩
      have K5 := Lib.hid (K5.out.below b9)
      have K6 := Lib.hid (K6.out.below b9)
      have K7 := Lib.hid (K7.out.below b9)
      have K8 := Lib.hid (K8.out.below b9)
      have B9 := Lib.hid (below_then B8.out b9 B8.out.size)
      clear b9 a0 a1 a2 d0 d1 d2
      have Q2 := Lib.hid (Same_ser cf cs w9 K5.out.i K6.out.i)
      obtain ⟨a0, a1, a2⟩ := K5.out.cells
      obtain ⟨d0, d1, d2⟩ := K6.out.cells
      dsimp only at a0 a1 a2 d0 d1 d2
      go_wp2_with fail
      refine (Q2.out).mono ?_
      rintro e w10 ⟨rfl, b10⟩
      have K7 := Lib.hid (K7.out.below b10)
      have K8 := Lib.hid (K8.out.below b10)
      have B10 := Lib.hid (below_then B9.out b10 B9.out.size)
      clear b10 a0 a1 a2 d0 d1 d2
      have Q3 := Lib.hid (Same_ser jf js w10 K7.out.i K8.out.i)
      obtain ⟨a0, a1, a2⟩ := K7.out.cells
      obtain ⟨d0, d1, d2⟩ := K8.out.cells
      dsimp only at a0 a1 a2 d0 d1 d2
      go_wp2_with fail
      refine (Q3.out).mono ?_
      rintro e w11 ⟨rfl, b11⟩
      have B11 := Lib.hid (below_then B10.out b11 B10.out.size)
      clear b11 a0 a1 a2 d0 d1 d2
      go_wp2
      go_ret
      exact ⟨ret_b (by simp), B11.out⟩
    · simp only [q1] at L1
      simp only [q2] at L2
      clear q1 q2 S1 S2 C1 C2 J1 J2
      go_enter Try.func8, Try.ntmps8
      go_wp2_with fail
      refine (awake_calls _).mono ?_
      rintro e w1 ⟨rfl, b1⟩
      have B1 := Lib.hid (below_then B0.out b1 B0.out.size)
      have X1 := Lib.hid (X0.out.below b1)
      have Y1 := Lib.hid (Y0.out.below b1)
      obtain ⟨a0, a1, a2⟩ := X1.out.cells
      obtain ⟨d0, d1, d2⟩ := Y1.out.cells
      dsimp only at a0 a1 a2 d0 d1 d2
      clear b1 X0 Y0 B0 hWa hWb
      go_wp2_with fail
      refine (L1.out _).mono ?_
      rintro e w2 ⟨rfl, rfl⟩
      go_wp2_with fail
      refine (L2.out _).mono ?_
      rintro e w2 ⟨rfl, rfl⟩
      go_wp2
      go_ret
      exact ⟨rfl, B1.out⟩
  · simp only [q1] at L1
    clear q1 S1 S2 C1 C2 J1 J2 L2
    go_enter Try.func8, Try.ntmps8
    go_wp2_with fail
    refine (awake_calls _).mono ?_
    rintro e w1 ⟨rfl, b1⟩
    have B1 := Lib.hid (below_then B0.out b1 B0.out.size)
    have X1 := Lib.hid (X0.out.below b1)
    obtain ⟨a0, a1, a2⟩ := X1.out.cells
    dsimp only at a0 a1 a2
    clear b1 X0 Y0 B0 hWa hWb
    go_wp2_with fail
    refine (L1.out _).mono ?_
    rintro e w2 ⟨rfl, rfl⟩
    go_wp2
    go_ret
    exact ⟨rfl, B1.out⟩
end Go.Proofs.Ytfhikdgdckfalaa
