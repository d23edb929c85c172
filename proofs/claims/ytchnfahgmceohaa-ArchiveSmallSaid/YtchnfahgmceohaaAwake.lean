/- Pack, Sum; the chapter's examples hold. -/
import Derived.Test.YtchnfahgmceohaaEncR
import Derived.Test.YtchnfahgmceohaaEqB
namespace Go.Proofs.Ytchnfahgmceohaa
open Go.RowKit
set_option linter.unusedVariables false

set_option maxHeartbeats 1000000 in
theorem Pack_in {A : Option Addr} {n c : Nat} {l : List Int} (w : World) (h : Ints w A n c l) (hp : inP l) (hn : (n : Int) ≤ 10000) :
    Calls Try.prog 21 #[.slice A n c] w (RetZ (packL l) 0 w) := by
  have hcap := h.cap
  have hmax := h.max
  have HP := Lib.hid hp
  have H := Lib.hid h
  have PK := Lib.hid (pack_calls w h hp hn)
  clear h hp
  go_enter Try.func21, Try.ntmps21
  go_wp2
  go_loop [11] (fun i => ∃ k : Nat, k ≤ n ∧ i = .int .i64 k) (fun i => n - (intOf i).toNat)
  case atStart => exact ⟨0, Nat.zero_le _, rfl⟩
  case round =>
    obtain ⟨k, hk, rfl⟩ := hrel
    by_cases hlt : k < n
    · obtain ⟨ad, rfl, hl, hc⟩ := H.out.at_ hlt
      obtain ⟨z0, z1⟩ := inP_el HP.out k
      have z2 : ¬ el l k < -1099511627776 := by omega
      generalize el l k = z at *
      go_wp2
      go_round
      case rel => exact ⟨k + 1, by omega, by go_num⟩
      case measure => simp [intOf]; try omega
    · obtain rfl : k = n := by omega
      go_wp2_with fail
      refine (PK.out).mono ?_
      rintro e w1 ⟨v1, rfl, o1, b1⟩
      have O1 := Lib.hid o1
      have B1 := Lib.hid b1
      clear o1 b1
      go_wp2
      go_returns
      exact ⟨_, rfl, O1.out, B1.out⟩
theorem aSum_calls {A : Option Addr} {n c : Nat} {bs : List Int} (w : World) (h : Byts w A n c bs) (hn : (n : Int) ≤ 1048576) :
    Calls Try.prog 35 #[.slice A n c] w fun e w' => e = .returned (.tuple #[.int .i64 (sumB bs), .int .i64 0]) ∧ w = w' := by
  have hcap := h.cap
  have hmax := h.max
  obtain ⟨b0, b1⟩ := sumB_bd bs
  have sm := sum_calls w h
  generalize sumB bs = s at *
  have SM := Lib.hid sm
  clear sm h
  go_enter Try.func35, Try.ntmps35
  go_wp2_with fail
  refine (SM.out).mono ?_
  rintro e w' ⟨rfl, rfl⟩
  go_wp2
  go_returns
  exact ⟨rfl, rfl⟩

theorem ex1 : packL [5, 5, 5, 4] = [21, 4, 3] := by decide +kernel
theorem ex2 : sumB [] = 7 := by decide +kernel
theorem ex3 : sumB [0] = 218 := by decide +kernel
theorem ex4 : EncV [] = ([82, 65, 1], 0) := by decide +kernel
theorem bel_alloc {B : Nat} {a b c : World} {o : Obj} (h : Below B a b) (k : Below (b.alloc o).heap.size (b.alloc o) c) (hs : B ≤ b.heap.size) : Below B a c := below_then (h.alloc hs o) k (by simp; omega)

set_option maxHeartbeats 2000000 in
set_option maxRecDepth 100000 in
theorem awake_calls (w : World) : Calls Try.prog 9 #[] w fun e w' => e = .returned (.bool true) ∧ Below w.heap.size w w' := by
  have p1 := Pack_in (w.alloc (.cells #[.int .i64 5, .int .i64 5, .int .i64 5, .int .i64 4] 3)) (Ints.lit w [5, 5, 5, 4] (by decide) (by decide)) (by unfold inP; decide) (by decide)
  rw [ex1] at p1
  have P1 := Lib.hid p1
  have s0 := fun W => aSum_calls W (Byts.nil W) (by decide)
  rw [ex2] at s0
  have S0 := Lib.hid s0
  have s1 := fun W => aSum_calls (W.alloc (.cells #[.int .u8 0] 5)) (Byts.lit W [0] (by decide) (by decide)) (by decide)
  rw [ex3] at s1
  have S1 := Lib.hid s1
  have e0 := fun W => Encode_calls W (Sers.nil W) ⟨by decide, by simp⟩
  rw [ex4] at e0
  have E0 := Lib.hid e0
  clear p1 s0 s1 e0
  go_enter Try.func9, Try.ntmps9
  go_wp2_with fail
  refine (P1.out).mono ?_
  rintro e w1 ⟨v1, rfl, o1, b1⟩
  obtain ⟨A1, n1, c1, rfl, y1, -⟩ := o1.ints
  have Y1 := Lib.hid y1
  have B1 := Lib.hid (below_then ((Below.refl w.heap.size w).alloc (Nat.le_refl _) (.cells #[.int .i64 5, .int .i64 5, .int .i64 5, .int .i64 4] 3)) b1 (by simp))
  clear o1 b1 y1
  go_wp2_with fail
  refine (S0.out _).mono ?_
  rintro e w' ⟨rfl, rfl⟩
  go_wp2_with fail
  refine (S1.out _).mono ?_
  rintro e w' ⟨rfl, rfl⟩
  have Y2 := Lib.hid (Y1.out.below ((Below.refl _ _).alloc (Nat.le_refl _) (.cells #[.int .u8 0] 5)))
  have B2 := Lib.hid (B1.out.alloc B1.out.size (.cells #[.int .u8 0] 5))
  clear Y1 B1
  go_wp2_with fail
  refine (E0.out _).mono ?_
  rintro e w3 ⟨v3, rfl, o3, b3⟩
  obtain ⟨A3, n3, c3, rfl, y3, -⟩ := o3.ints
  have Y3 := y3.below ((Below.refl _ _).alloc (Nat.le_refl _) (.cells #[.int .u8 21, .int .u8 4, .int .u8 3] 5))
  have B3 := Lib.hid (below_then B2.out b3 B2.out.size)
  have eq1 := equalB_same (w3.alloc (.cells #[.int .u8 21, .int .u8 4, .int .u8 3] 5)) ((Y2.out.below b3).below ((Below.refl _ _).alloc (Nat.le_refl _) _)) (Byts.lit w3 [21, 4, 3] (by decide) (by decide))
  have eq2 := equalB_same ((w3.alloc (.cells #[.int .u8 21, .int .u8 4, .int .u8 3] 5)).alloc (.cells #[.int .u8 82, .int .u8 65, .int .u8 1] 5)) (Y3.below ((Below.refl _ _).alloc (Nat.le_refl _) _)) (Byts.lit (w3.alloc (.cells #[.int .u8 21, .int .u8 4, .int .u8 3] 5)) [82, 65, 1] (by decide) (by decide))
  rw [World.size_alloc] at eq2
  have EQ1 := Lib.hid eq1
  have EQ2 := Lib.hid eq2
  clear o3 b3 y3 Y3 eq1 eq2
  go_wp2_with fail
  refine (EQ1.out).mono ?_
  rintro e w' ⟨rfl, rfl⟩
  go_wp2_with fail
  refine (EQ2.out).mono ?_
  rintro e w' ⟨rfl, rfl⟩
  go_wp2
  go_ret
  exact ⟨rfl, (B3.out.alloc B3.out.size _).alloc (by have := B3.out.size; simp; omega) _⟩
end Go.Proofs.Ytchnfahgmceohaa
