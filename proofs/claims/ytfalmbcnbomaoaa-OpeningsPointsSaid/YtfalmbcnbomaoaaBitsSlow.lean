/- The long way through math/bits.Div64: two digits of 32 bits; every number of the walk has a name. -/
import Derived.Test.YtfalmbcnbomaoaaBits
namespace Go.Proofs.Ytfalmbcnbomaoaa
open Go.RowKit Go.Proofs.Ytfalmbcnbomaoaa.DivLaw
set_option linter.unusedVariables false

set_option maxHeartbeats 4000000 in
theorem div64_slow 
   (hi lo y S Y A Bv u C y1 y0 u1 u0 q r Q v q' r' Q' rr : Nat) (hlo : (lo : Int) ≤ 18446744073709551615) (hpos : ((hi : Int) == 0) = false) (hhi : (hi : Int) < y) (hy : (y : Int) ≤ 18446744073709551615) (hy0 : ((y : Int) == 0) = false) (hS : (S : Int) ≤ 63)
   (e1 : (y : Int) * 2 ^ S = (Y : Int)) (hY : (Y : Int) ≤ 18446744073709551615) (e2 : (Y : Int) / 4294967296 = (y1 : Int)) (e3 : bits .and .u64 (Y : Int) 4294967295 = (y0 : Int)) (hy1 : 2147483648 ≤ (y1 : Int)) 
   (hy1' : (y1 : Int) ≤ 4294967295) (hy0' : (y0 : Int) ≤ 4294967295)
   (e4 : (hi : Int) * 2 ^ S = (A : Int)) (hA : (A : Int) ≤ 18446744073709551615) (e5 : (lo : Int) / 2 ^ (64 - S) = (Bv : Int)) (e6 : bits .or .u64 (A : Int) (Bv : Int) = (u : Int)) (hu : (u : Int) ≤ 18446744073709551615)
   (e7 : IntKind.u64.wrap ((lo : Int) * 2 ^ S) = (C : Int)) (e8 : (C : Int) / 4294967296 = (u1 : Int)) (e9 : bits .and .u64 (C : Int) 4294967295 = (u0 : Int)) (hu1 : (u1 : Int) ≤ 4294967295) (hu0 : (u0 : Int) ≤ 4294967295)
   (e10 : (u : Int) / (y1 : Int) = (q : Int)) (hq : (q : Int) ≤ 4294967297) (hqz : 0 ≤ (q : Int) * (y1 : Int)) (hqy : (q : Int) * (y1 : Int) ≤ (u : Int)) (e12 : (u : Int) - (q : Int) * (y1 : Int) = (r : Int)) (hr : (r : Int) < y1)
   (hUY : Hid (u < y1 * 4294967296 + y0))
   (hQ : Hid (Q = (u * 4294967296 + u1) / (y1 * 4294967296 + y0))) (hQl : (Q : Int) ≤ 4294967295)
   (e13 : IntKind.u64.wrap (IntKind.u64.wrap (IntKind.u64.wrap ((u : Int) * 4294967296) + (u1 : Int)) - IntKind.u64.wrap ((Q : Int) * (Y : Int))) = (v : Int)) (hv : (v : Int) ≤ 18446744073709551615) (hVY : Hid (v < y1 * 4294967296 + y0))
   (e14 : (v : Int) / (y1 : Int) = (q' : Int)) (hq' : (q' : Int) ≤ 4294967297) (hqz' : 0 ≤ (q' : Int) * (y1 : Int)) (hqy' : (q' : Int) * (y1 : Int) ≤ (v : Int)) (e15 : (v : Int) - (q' : Int) * (y1 : Int) = (r' : Int)) (hr' : (r' : Int) < y1)
   (hQ' : Hid (Q' = (v * 4294967296 + u0) / (y1 * 4294967296 + y0))) (hQl' : (Q' : Int) ≤ 4294967295)
   (e16 : IntKind.u64.wrap (IntKind.u64.wrap (IntKind.u64.wrap ((v : Int) * 4294967296) + (u0 : Int)) - IntKind.u64.wrap ((Q' : Int) * (Y : Int))) = (rr : Int))
   (hd : Hid (Digit 4294967296 u y1 y0 u1 q r)) (hd' : Hid (Digit 4294967296 v y1 y0 u0 q' r'))
   (w : World)
   (c : Calls Try.prog 71 #[.int .u64 y] w fun e w' => e = .returned (.int .i64 S) ∧ w = w') :
    Calls Try.prog 64 #[.int .u64 hi, .int .u64 lo, .int .u64 y] w fun e w' => e = .returned (.tuple #[.int .u64 ((Q : Int) * 4294967296 + (Q' : Int)), .int .u64 ((rr : Int) / 2 ^ S)]) ∧ w = w' := by
  have C := Lib.hid c
  clear c
  go_enter Try.func64, Try.ntmps64
  go_upto_block 0 with (go_at_call 71; refine C.out.mono ?_; rintro e w' ⟨rfl, rfl⟩)
  go_cut [15] (fun s15 wx => s15 = .int .u64 Q ∧ w = wx)
  case first =>
    go_wp2_with fail
    go_loop [15, 16] (fun s15 s16 => ∃ a b : Nat, s15 = .int .u64 a ∧ s16 = .int .u64 b ∧ (a : Int) ≤ 4294967297 ∧ (b : Int) ≤ 4294967295 ∧ Hid (Digit 4294967296 u y1 y0 u1 a b)) (fun s15 _ => (intOf s15).toNat)
    case atStart => exact ⟨q, r, rfl, rfl, hq, by omega, hd⟩
    case round =>
      obtain ⟨a, b, rfl, rfl, ha, hb, hD⟩ := hrel
      by_cases ct : 4294967296 ≤ a ∨ b * 4294967296 + u1 < a * y0
      · have hn : 1 ≤ a ∧ Digit 4294967296 u y1 y0 u1 (a - 1) (b + y1) := by
          rcases ct with ct | ct
          · exact digit_big hD.out (by omega) (by omega) hUY.out (by omega) ct
          · exact digit_over hD.out (by omega) (by omega) ct
        have ha1 : 1 ≤ (a : Int) := by have := hn.1; omega
        have hN := Lib.hid hn.2
        clear hn
        have hz : 4294967296 ≤ (b : Int) + (y1 : Int) → (a : Int) - 1 = (Q : Int) := fun h => by
          have := digit_break hN.out (by omega) (by omega) (by omega) (by omega) (by omega)
          rw [← hQ.out] at this
          omega
        have hZ := Lib.hid hz
        clear hz
        by_cases cb : 4294967296 ≤ (a : Int)
        · clear ct
          by_cases cr : 4294967296 ≤ (b : Int) + (y1 : Int)
          · go_wp2
            go_meet
            exact ⟨by rw [hZ.out cr], rfl⟩
          · go_wp2
            go_round
            case rel => exact ⟨a - 1, b + y1, by go_num, by go_num, by omega, by omega, hN⟩
            case measure => simp [intOf]; omega
        · have cm : 4294967296 * (b : Int) + (u1 : Int) < (a : Int) * (y0 : Int) := by
            rcases ct with ct | ct
            · omega
            · have : ((b * 4294967296 + u1 : Nat) : Int) < ((a * y0 : Nat) : Int) := by omega
              rw [Int.natCast_mul] at this
              omega
          clear ct
          have cy : (a : Int) * (y0 : Int) ≤ 18446744073709551615 := by
            have := Nat.mul_le_mul (show a ≤ 4294967295 by omega) (show y0 ≤ 4294967295 by omega)
            have h2 : ((a * y0 : Nat) : Int) ≤ 18446744073709551615 := by omega
            rwa [Int.natCast_mul] at h2
          have cy0 : 0 ≤ (a : Int) * (y0 : Int) := by rw [← Int.natCast_mul]; omega
          by_cases cr : 4294967296 ≤ (b : Int) + (y1 : Int)
          · go_wp2
            go_meet
            exact ⟨by rw [hZ.out cr], rfl⟩
          · go_wp2
            go_round
            case rel => exact ⟨a - 1, b + y1, by go_num, by go_num, by omega, by omega, hN⟩
            case measure => simp [intOf]; omega
      · have cb : ¬ 4294967296 ≤ (a : Int) := by omega
        have cm : (a : Int) * (y0 : Int) ≤ 4294967296 * (b : Int) + (u1 : Int) := by
          have : ((a * y0 : Nat) : Int) ≤ ((b * 4294967296 + u1 : Nat) : Int) := by omega
          rw [Int.natCast_mul] at this
          omega
        have ez : a = Q := by
          rw [hQ.out]
          exact digit_end hD.out (by omega) (by omega) (by omega)
        have eZ := Lib.hid ez
        clear ct ez
        have cy : (a : Int) * (y0 : Int) ≤ 18446744073709551615 := by omega
        have cy0 : 0 ≤ (a : Int) * (y0 : Int) := by rw [← Int.natCast_mul]; omega
        go_wp2
        go_meet
        exact ⟨by rw [eZ.out], rfl⟩
  case rest =>
  obtain ⟨rfl, rfl⟩ := hcut
  go_upto_block 2 with fail
  go_cut [18] (fun s18 wx => s18 = .int .u64 Q' ∧ w = wx)
  case first =>
    go_wp2_with fail
    go_loop [18, 16] (fun s15 s16 => ∃ a b : Nat, s15 = .int .u64 a ∧ s16 = .int .u64 b ∧ (a : Int) ≤ 4294967297 ∧ (b : Int) ≤ 4294967295 ∧ Hid (Digit 4294967296 v y1 y0 u0 a b)) (fun s15 _ => (intOf s15).toNat)
    case atStart => exact ⟨q', r', rfl, rfl, hq', by omega, hd'⟩
    case round =>
      obtain ⟨a, b, rfl, rfl, ha, hb, hD⟩ := hrel
      by_cases ct : 4294967296 ≤ a ∨ b * 4294967296 + u0 < a * y0
      · have hn : 1 ≤ a ∧ Digit 4294967296 v y1 y0 u0 (a - 1) (b + y1) := by
          rcases ct with ct | ct
          · exact digit_big hD.out (by omega) (by omega) hVY.out (by omega) ct
          · exact digit_over hD.out (by omega) (by omega) ct
        have ha1 : 1 ≤ (a : Int) := by have := hn.1; omega
        have hN := Lib.hid hn.2
        clear hn
        have hz : 4294967296 ≤ (b : Int) + (y1 : Int) → (a : Int) - 1 = (Q' : Int) := fun h => by
          have := digit_break hN.out (by omega) (by omega) (by omega) (by omega) (by omega)
          rw [← hQ'.out] at this
          omega
        have hZ := Lib.hid hz
        clear hz
        by_cases cb : 4294967296 ≤ (a : Int)
        · clear ct
          by_cases cr : 4294967296 ≤ (b : Int) + (y1 : Int)
          · go_wp2
            go_meet
            exact ⟨by rw [hZ.out cr], rfl⟩
          · go_wp2
            go_round
            case rel => exact ⟨a - 1, b + y1, by go_num, by go_num, by omega, by omega, hN⟩
            case measure => simp [intOf]; omega
        · have cm : 4294967296 * (b : Int) + (u0 : Int) < (a : Int) * (y0 : Int) := by
            rcases ct with ct | ct
            · omega
            · have : ((b * 4294967296 + u0 : Nat) : Int) < ((a * y0 : Nat) : Int) := by omega
              rw [Int.natCast_mul] at this
              omega
          clear ct
          have cy : (a : Int) * (y0 : Int) ≤ 18446744073709551615 := by
            have := Nat.mul_le_mul (show a ≤ 4294967295 by omega) (show y0 ≤ 4294967295 by omega)
            have h2 : ((a * y0 : Nat) : Int) ≤ 18446744073709551615 := by omega
            rwa [Int.natCast_mul] at h2
          have cy0 : 0 ≤ (a : Int) * (y0 : Int) := by rw [← Int.natCast_mul]; omega
          by_cases cr : 4294967296 ≤ (b : Int) + (y1 : Int)
          · go_wp2
            go_meet
            exact ⟨by rw [hZ.out cr], rfl⟩
          · go_wp2
            go_round
            case rel => exact ⟨a - 1, b + y1, by go_num, by go_num, by omega, by omega, hN⟩
            case measure => simp [intOf]; omega
      · have cb : ¬ 4294967296 ≤ (a : Int) := by omega
        have cm : (a : Int) * (y0 : Int) ≤ 4294967296 * (b : Int) + (u0 : Int) := by
          have : ((a * y0 : Nat) : Int) ≤ ((b * 4294967296 + u0 : Nat) : Int) := by omega
          rw [Int.natCast_mul] at this
          omega
        have ez : a = Q' := by
          rw [hQ'.out]
          exact digit_end hD.out (by omega) (by omega) (by omega)
        have eZ := Lib.hid ez
        clear ct ez
        have cy : (a : Int) * (y0 : Int) ≤ 18446744073709551615 := by omega
        have cy0 : 0 ≤ (a : Int) * (y0 : Int) := by rw [← Int.natCast_mul]; omega
        go_wp2
        go_meet
        exact ⟨by rw [eZ.out], rfl⟩
  case rest =>
  obtain ⟨rfl, rfl⟩ := hcut
  go_wp2
  go_ret2
  exact ⟨rfl, rfl⟩

end Go.Proofs.Ytfalmbcnbomaoaa
