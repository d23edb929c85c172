/- The products and bit counts of math/bits: Mul64, Len64 and LeadingZeros64 return what they say. No conditions beyond the argument's own range. -/
import Derived.Test.YtfhikdgdckfalaaProg
import Derived.WalkKit
import Derived.Lib.Mul64
import Derived.Lib.BitFns
import Derived.Lib.Small
import Derived.Lib.Strings
import Derived.Lib.Slices
import Derived.Lib.Walk
import Derived.Lib.Hide
import Derived.Lib.ItoaNum
import Derived.Laws.Bits64b
import Derived.WalkLawsBesides
import Derived.Deep.DeepCutAuto
import Derived.Deep.CutBlock
import Derived.Deep.QuietTactic
import Derived.Deep.Draws
import Derived.BigQuiet
import Derived.Test.YtfhikdgdckfalaaMB05

namespace Go.Proofs.Ytfhikdgdckfalaa
open Go.RowKit Go.Proofs.Ytfhikdgdckfalaa.DivLaw
set_option linter.unusedVariables false

namespace Mul64
theorem maskN (a : Nat) (ha : a < 18446744073709551616) : bits .and .u64 (a : Int) 4294967295 = ((a % 4294967296 : Nat) : Int) := by
  have h := bits_and_u64_nat a 4294967295 ha (by omega)
  have e : a &&& 4294967295 = a % 4294967296 := Nat.and_two_pow_sub_one_eq_mod a 32
  rw [e] at h
  exact h
theorem divN (a : Nat) : (a : Int) / 4294967296 = ((a / 4294967296 : Nat) : Int) := by omega
theorem mulN (a b : Nat) : (a : Int) * (b : Int) = ((a * b : Nat) : Int) := (Int.natCast_mul a b).symm
theorem addN (a b : Nat) : (a : Int) + (b : Int) = ((a + b : Nat) : Int) := (Int.natCast_add a b).symm
theorem wrapN (a : Nat) (ha : a < 18446744073709551616) : IntKind.u64.wrap (a : Int) = (a : Int) := by rw [IntKind.wrap_u64]; omega
theorem wrapM (a : Nat) : IntKind.u64.wrap (a : Int) = ((a % 18446744073709551616 : Nat) : Int) := by rw [IntKind.wrap_u64]; omega
end Mul64

set_option maxHeartbeats 1000000 in
theorem mul64_calls (x y : Nat) (hx : x < 18446744073709551616) (hy : y < 18446744073709551616) (w : World) :
    Calls Try.prog 77 #[.int .u64 x, .int .u64 y] w fun e w' => e = .returned (.tuple #[.int .u64 ((x * y / 18446744073709551616 : Nat) : Int), .int .u64 ((x * y % 18446744073709551616 : Nat) : Int)]) ∧ w = w' := by
  obtain ⟨bd, bt, bw, hhi⟩ := Lib.mul64_hi x y hx hy
  have ba := Lib.half_mul_le (a := x / 4294967296) (b := y / 4294967296) (by omega) (by omega)
  have bb := Lib.half_mul_le (a := x / 4294967296) (b := y % 4294967296) (by omega) (by omega)
  have bc := Lib.half_mul_le (a := x % 4294967296) (b := y / 4294967296) (by omega) (by omega)
  have ba' : x / 4294967296 * (y / 4294967296) < 18446744073709551616 := by omega
  have bb' : x / 4294967296 * (y % 4294967296) < 18446744073709551616 := by omega
  have bc' : x % 4294967296 * (y / 4294967296) < 18446744073709551616 := by omega
  have bh1 : x / 4294967296 * (y / 4294967296) + (x / 4294967296 * (y % 4294967296) + x % 4294967296 * (y % 4294967296) / 4294967296) / 4294967296 < 18446744073709551616 := by omega
  have bh : x / 4294967296 * (y / 4294967296) + (x / 4294967296 * (y % 4294967296) + x % 4294967296 * (y % 4294967296) / 4294967296) / 4294967296 + ((x / 4294967296 * (y % 4294967296) + x % 4294967296 * (y % 4294967296) / 4294967296) % 4294967296 + x % 4294967296 * (y / 4294967296)) / 4294967296 < 18446744073709551616 := by omega
  go_enter Try.func77, Try.ntmps77
  go_wp2
  simp only [Mul64.maskN x hx, Mul64.maskN y hy, Mul64.divN, Mul64.mulN, Mul64.addN, Mul64.wrapN _ bd, Mul64.wrapN _ bb', Mul64.wrapN _ bt, Mul64.maskN _ bt, Mul64.wrapN _ bc', Mul64.wrapN _ bw, Mul64.wrapN _ ba', Mul64.wrapN _ bh1, Mul64.wrapN _ bh, Mul64.wrapM (x * y)]
  rw [hhi]
  go_ret2
  exact ⟨rfl, rfl⟩

/-- The table of bits.Len64 at a byte. -/
theorem tab_size : Lib.len8tab.size = 256 := by decide +kernel
theorem tab_all : ∀ n : Fin 256, (Lib.len8tab[n.val]'(by rw [tab_size]; exact n.isLt)).toNat = Lib.bitLen n.val := by decide +kernel
theorem tab_at (i : Int) (h0 : 0 ≤ i) (h : i.toNat < Lib.len8tab.size) : ((Lib.len8tab[i.toNat]'h).toNat : Int) = Lib.bitLen i.toNat ∧ Lib.bitLen i.toNat ≤ 8 := by
  have h' : i.toNat < 256 := by rw [tab_size] at h; exact h
  have := tab_all ⟨i.toNat, h'⟩
  exact ⟨by rw [← this], Lib.bitLen_le8 ⟨i.toNat, h'⟩⟩

set_option maxHeartbeats 400000 in
theorem len64_000 (x : Int) (w : World) (h0 : 0 ≤ x) (h1 : x ≤ 18446744073709551615) (h2 : x < 4294967296) (h3 : x < 65536) (h4 : x < 256) :
    Calls Try.prog 91 #[.int .u64 x] w fun e w' => e = .returned (.int .i64 (Lib.bitLen x.toNat)) ∧ w = w' := by
  have c4 : x < ((Lib.len8tab.size : Nat) : Int) := by rw [tab_size]; omega
  have t := tab_at (x) (by omega) (by rw [tab_size]; omega)
  have T := Lib.hid t
  clear t
  go_enter Try.func91, Try.ntmps91
  go_wp2
  go_ret
  refine ⟨congrArg Ending.returned (congrArg (Value.int IntKind.i64) ?_), rfl⟩
  have t1 := T.out.1
  have t2 := T.out.2
  unfold wrap64
  omega

set_option maxHeartbeats 400000 in
theorem len64_001 (x : Int) (w : World) (h0 : 0 ≤ x) (h1 : x ≤ 18446744073709551615) (h2 : x < 4294967296) (h3 : x < 65536) (h4 : 256 ≤ x) :
    Calls Try.prog 91 #[.int .u64 x] w fun e w' => e = .returned (.int .i64 (Lib.bitLen x.toNat)) ∧ w = w' := by
  have c4 : x / 256 < ((Lib.len8tab.size : Nat) : Int) := by rw [tab_size]; omega
  have t := tab_at (x / 256) (by omega) (by rw [tab_size]; omega)
  have s := Lib.bitLen_shift 8 x.toNat (by omega) (by omega)
  rw [show x.toNat / 2 ^ 8 = (x / 256).toNat from by omega] at s
  have T := Lib.hid t
  clear t
  have S := Lib.hid s
  clear s
  go_enter Try.func91, Try.ntmps91
  go_wp2
  go_ret
  refine ⟨congrArg Ending.returned (congrArg (Value.int IntKind.i64) ?_), rfl⟩
  have t1 := T.out.1
  have t2 := T.out.2
  have s1 := S.out
  unfold wrap64
  omega

set_option maxHeartbeats 400000 in
theorem len64_010 (x : Int) (w : World) (h0 : 0 ≤ x) (h1 : x ≤ 18446744073709551615) (h2 : x < 4294967296) (h3 : 65536 ≤ x) (h4 : x / 65536 < 256) :
    Calls Try.prog 91 #[.int .u64 x] w fun e w' => e = .returned (.int .i64 (Lib.bitLen x.toNat)) ∧ w = w' := by
  have c4 : x / 65536 < ((Lib.len8tab.size : Nat) : Int) := by rw [tab_size]; omega
  have t := tab_at (x / 65536) (by omega) (by rw [tab_size]; omega)
  have s := Lib.bitLen_shift 16 x.toNat (by omega) (by omega)
  rw [show x.toNat / 2 ^ 16 = (x / 65536).toNat from by omega] at s
  have T := Lib.hid t
  clear t
  have S := Lib.hid s
  clear s
  go_enter Try.func91, Try.ntmps91
  go_wp2
  go_ret
  refine ⟨congrArg Ending.returned (congrArg (Value.int IntKind.i64) ?_), rfl⟩
  have t1 := T.out.1
  have t2 := T.out.2
  have s1 := S.out
  unfold wrap64
  omega

set_option maxHeartbeats 400000 in
theorem len64_011 (x : Int) (w : World) (h0 : 0 ≤ x) (h1 : x ≤ 18446744073709551615) (h2 : x < 4294967296) (h3 : 65536 ≤ x) (h4 : 256 ≤ x / 65536) :
    Calls Try.prog 91 #[.int .u64 x] w fun e w' => e = .returned (.int .i64 (Lib.bitLen x.toNat)) ∧ w = w' := by
  have c4 : x / 65536 / 256 < ((Lib.len8tab.size : Nat) : Int) := by rw [tab_size]; omega
  have t := tab_at (x / 65536 / 256) (by omega) (by rw [tab_size]; omega)
  have s := Lib.bitLen_shift 24 x.toNat (by omega) (by omega)
  rw [show x.toNat / 2 ^ 24 = (x / 65536 / 256).toNat from by omega] at s
  have T := Lib.hid t
  clear t
  have S := Lib.hid s
  clear s
  go_enter Try.func91, Try.ntmps91
  go_wp2
  go_ret
  refine ⟨congrArg Ending.returned (congrArg (Value.int IntKind.i64) ?_), rfl⟩
  have t1 := T.out.1
  have t2 := T.out.2
  have s1 := S.out
  unfold wrap64
  omega

set_option maxHeartbeats 400000 in
theorem len64_100 (x : Int) (w : World) (h0 : 0 ≤ x) (h1 : x ≤ 18446744073709551615) (h2 : 4294967296 ≤ x) (h3 : x / 4294967296 < 65536) (h4 : x / 4294967296 < 256) :
    Calls Try.prog 91 #[.int .u64 x] w fun e w' => e = .returned (.int .i64 (Lib.bitLen x.toNat)) ∧ w = w' := by
  have c4 : x / 4294967296 < ((Lib.len8tab.size : Nat) : Int) := by rw [tab_size]; omega
  have t := tab_at (x / 4294967296) (by omega) (by rw [tab_size]; omega)
  have s := Lib.bitLen_shift 32 x.toNat (by omega) (by omega)
  rw [show x.toNat / 2 ^ 32 = (x / 4294967296).toNat from by omega] at s
  have T := Lib.hid t
  clear t
  have S := Lib.hid s
  clear s
  go_enter Try.func91, Try.ntmps91
  go_wp2
  go_ret
  refine ⟨congrArg Ending.returned (congrArg (Value.int IntKind.i64) ?_), rfl⟩
  have t1 := T.out.1
  have t2 := T.out.2
  have s1 := S.out
  unfold wrap64
  omega

set_option maxHeartbeats 400000 in
theorem len64_101 (x : Int) (w : World) (h0 : 0 ≤ x) (h1 : x ≤ 18446744073709551615) (h2 : 4294967296 ≤ x) (h3 : x / 4294967296 < 65536) (h4 : 256 ≤ x / 4294967296) :
    Calls Try.prog 91 #[.int .u64 x] w fun e w' => e = .returned (.int .i64 (Lib.bitLen x.toNat)) ∧ w = w' := by
  have c4 : x / 4294967296 / 256 < ((Lib.len8tab.size : Nat) : Int) := by rw [tab_size]; omega
  have t := tab_at (x / 4294967296 / 256) (by omega) (by rw [tab_size]; omega)
  have s := Lib.bitLen_shift 40 x.toNat (by omega) (by omega)
  rw [show x.toNat / 2 ^ 40 = (x / 4294967296 / 256).toNat from by omega] at s
  have T := Lib.hid t
  clear t
  have S := Lib.hid s
  clear s
  go_enter Try.func91, Try.ntmps91
  go_wp2
  go_ret
  refine ⟨congrArg Ending.returned (congrArg (Value.int IntKind.i64) ?_), rfl⟩
  have t1 := T.out.1
  have t2 := T.out.2
  have s1 := S.out
  unfold wrap64
  omega

set_option maxHeartbeats 400000 in
theorem len64_110 (x : Int) (w : World) (h0 : 0 ≤ x) (h1 : x ≤ 18446744073709551615) (h2 : 4294967296 ≤ x) (h3 : 65536 ≤ x / 4294967296) (h4 : x / 4294967296 / 65536 < 256) :
    Calls Try.prog 91 #[.int .u64 x] w fun e w' => e = .returned (.int .i64 (Lib.bitLen x.toNat)) ∧ w = w' := by
  have c4 : x / 4294967296 / 65536 < ((Lib.len8tab.size : Nat) : Int) := by rw [tab_size]; omega
  have t := tab_at (x / 4294967296 / 65536) (by omega) (by rw [tab_size]; omega)
  have s := Lib.bitLen_shift 48 x.toNat (by omega) (by omega)
  rw [show x.toNat / 2 ^ 48 = (x / 4294967296 / 65536).toNat from by omega] at s
  have T := Lib.hid t
  clear t
  have S := Lib.hid s
  clear s
  go_enter Try.func91, Try.ntmps91
  go_wp2
  go_ret
  refine ⟨congrArg Ending.returned (congrArg (Value.int IntKind.i64) ?_), rfl⟩
  have t1 := T.out.1
  have t2 := T.out.2
  have s1 := S.out
  unfold wrap64
  omega

set_option maxHeartbeats 400000 in
theorem len64_111 (x : Int) (w : World) (h0 : 0 ≤ x) (h1 : x ≤ 18446744073709551615) (h2 : 4294967296 ≤ x) (h3 : 65536 ≤ x / 4294967296) (h4 : 256 ≤ x / 4294967296 / 65536) :
    Calls Try.prog 91 #[.int .u64 x] w fun e w' => e = .returned (.int .i64 (Lib.bitLen x.toNat)) ∧ w = w' := by
  have c4 : x / 4294967296 / 65536 / 256 < ((Lib.len8tab.size : Nat) : Int) := by rw [tab_size]; omega
  have t := tab_at (x / 4294967296 / 65536 / 256) (by omega) (by rw [tab_size]; omega)
  have s := Lib.bitLen_shift 56 x.toNat (by omega) (by omega)
  rw [show x.toNat / 2 ^ 56 = (x / 4294967296 / 65536 / 256).toNat from by omega] at s
  have T := Lib.hid t
  clear t
  have S := Lib.hid s
  clear s
  go_enter Try.func91, Try.ntmps91
  go_wp2
  go_ret
  refine ⟨congrArg Ending.returned (congrArg (Value.int IntKind.i64) ?_), rfl⟩
  have t1 := T.out.1
  have t2 := T.out.2
  have s1 := S.out
  unfold wrap64
  omega

theorem len64_calls (x : Int) (w : World) (h0 : 0 ≤ x) (h1 : x ≤ 18446744073709551615) :
    Calls Try.prog 91 #[.int .u64 x] w fun e w' => e = .returned (.int .i64 (Lib.bitLen x.toNat)) ∧ w = w' := by
  by_cases c0 : x < 4294967296
  · by_cases c1 : x < 65536
    · by_cases c2 : x < 256
      · exact len64_000 x w h0 h1 (by omega) (by omega) (by omega)
      · exact len64_001 x w h0 h1 (by omega) (by omega) (by omega)
    · by_cases c2 : x / 65536 < 256
      · exact len64_010 x w h0 h1 (by omega) (by omega) (by omega)
      · exact len64_011 x w h0 h1 (by omega) (by omega) (by omega)
  · by_cases c1 : x / 4294967296 < 65536
    · by_cases c2 : x / 4294967296 < 256
      · exact len64_100 x w h0 h1 (by omega) (by omega) (by omega)
      · exact len64_101 x w h0 h1 (by omega) (by omega) (by omega)
    · by_cases c2 : x / 4294967296 / 65536 < 256
      · exact len64_110 x w h0 h1 (by omega) (by omega) (by omega)
      · exact len64_111 x w h0 h1 (by omega) (by omega) (by omega)

theorem lz64_calls (x : Int) (w : World) (h0 : 0 ≤ x) (h1 : x ≤ 18446744073709551615) :
    Calls Try.prog 86 #[.int .u64 x] w fun e w' => e = .returned (.int .i64 (64 - Lib.bitLen x.toNat)) ∧ w = w' := by
  have c := len64_calls x w h0 h1
  have hb : Lib.bitLen x.toNat ≤ 64 := Lib.bitLen_le x.toNat 64 (by omega) (by omega)
  have C := Lib.hid c
  clear c
  go_enter Try.func86, Try.ntmps86
  go_wp2_with (go_at_call 91; refine C.out.mono ?_; rintro e w' ⟨rfl, rfl⟩)
  go_ret
  exact ⟨rfl, rfl⟩
end Go.Proofs.Ytfhikdgdckfalaa

/- The long way through math/bits.Div64: two digits of 32 bits; every number of the walk has a name. -/
namespace Go.Proofs.Ytfhikdgdckfalaa
open Go.RowKit Go.Proofs.Ytfhikdgdckfalaa.DivLaw
set_option linter.unusedVariables false

set_option maxHeartbeats 4000000 in
theorem div64_slow 
   (hi lo y S Y A Bv u C y1 y0 u1 u0 q r Q v q' r' Q' rr : Nat) (hlo : (lo : Int) ≤ 18446744073709551615) (hpos : ((hi : Int) == 0) = false) (hhi : (hi : Int) < y) (hy : (y : Int) ≤ 18446744073709551615) (hy0 : ((y : Int) == 0) = false) (hS : (S : Int) ≤ 63)
   (e1 : (y : Int) * 2 ^ S = (Y : Int)) (hY : (Y : Int) ≤ 18446744073709551615) (e2 : (Y : Int) / 4294967296 = (y1 : Int)) (e3 : bits .and .u64 (Y : Int) 4294967295 = (y0 : Int)) (hy1 : 2147483648 ≤ (y1 : Int)) 
   (hy1' : (y1 : Int) ≤ 4294967295) (hy0' : (y0 : Int) ≤ 4294967295)
   (e4 : (hi : Int) * 2 ^ S = (A : Int)) (hA : (A : Int) ≤ 18446744073709551615) (e5 : (lo : Int) / 2 ^ (64 - S) = (Bv : Int)) (e6 : bits .or .u64 (A : Int) (Bv : Int) = (u : Int)) (hu : (u : Int) ≤ 18446744073709551615)
   (e7 : IntKind.u64.wrap ((lo : Int) * 2 ^ S) = (C : Int)) (e8 : (C : Int) / 4294967296 = (u1 : Int)) (e9 : bits .and .u64 (C : Int) 4294967295 = (u0 : Int)) (hu1 : (u1 : Int) ≤ 4294967295) (hu0 : (u0 : Int) ≤ 4294967295)
   (e10 : (u : Int) / (y1 : Int) = (q : Int)) (hq : (q : Int) ≤ 4294967297) (hqz : 0 ≤ (q : Int) * (y1 : Int)) (hqy : (q : Int) * (y1 : Int) ≤ (u : Int)) (e12 : (u : Int) - (q : Int) * (y1 : Int) = (r : Int)) (hr : (r : Int) < y1)
   (hUY : Hid (u < y1 * 4294967296 + y0))
   (hQ : Hid (Q = (u * 4294967296 + u1) / (y1 * 4294967296 + y0))) (hQl : (Q : Int) ≤ 4294967295)
   (e13 : IntKind.u64.wrap (IntKind.u64.wrap (IntKind.u64.wrap ((u : Int) * 4294967296) + (u1 : Int)) - IntKind.u64.wrap ((Q : Int) * (Y : Int))) = (v : Int)) (hv : (v : Int) ≤ 18446744073709551615) (hVY : Hid (v < y1 * 4294967296 + y0))
   (e14 : (v : Int) / (y1 : Int) = (q' : Int)) (hq' : (q' : Int) ≤ 4294967297) (hqz' : 0 ≤ (q' : Int) * (y1 : Int)) (hqy' : (q' : Int) * (y1 : Int) ≤ (v : Int)) (e15 : (v : Int) - (q' : Int) * (y1 : Int) = (r' : Int)) (hr' : (r' : Int) < y1)
   (hQ' : Hid (Q' = (v * 4294967296 + u0) / (y1 * 4294967296 + y0))) (hQl' : (Q' : Int) ≤ 4294967295)
   (e16 : IntKind.u64.wrap (IntKind.u64.wrap (IntKind.u64.wrap ((v : Int) * 4294967296) + (u0 : Int)) - IntKind.u64.wrap ((Q' : Int) * (Y : Int))) = (rr : Int))
   (hd : Hid (Digit 4294967296 u y1 y0 u1 q r)) (hd' : Hid (Digit 4294967296 v y1 y0 u0 q' r'))
   (w : World)
   (c : Calls Try.prog 86 #[.int .u64 y] w fun e w' => e = .returned (.int .i64 S) ∧ w = w') :
    Calls Try.prog 78 #[.int .u64 hi, .int .u64 lo, .int .u64 y] w fun e w' => e = .returned (.tuple #[.int .u64 ((Q : Int) * 4294967296 + (Q' : Int)), .int .u64 ((rr : Int) / 2 ^ S)]) ∧ w = w' := by
  have C := Lib.hid c
  clear c
  go_enter Try.func78, Try.ntmps78
  go_upto_block 0 with (go_at_call 86; refine C.out.mono ?_; rintro e w' ⟨rfl, rfl⟩)
  go_cut [15] (fun s15 wx => s15 = .int .u64 Q ∧ w = wx)
  case first =>
    go_wp2_with fail
    go_loop [15, 16] (fun s15 s16 => ∃ a b : Nat, s15 = .int .u64 a ∧ s16 = .int .u64 b ∧ (a : Int) ≤ 4294967297 ∧ (b : Int) ≤ 4294967295 ∧ Hid (Digit 4294967296 u y1 y0 u1 a b)) (fun s15 _ => (intOf s15).toNat)
    case atStart => exact ⟨q, r, rfl, rfl, hq, by omega, hd⟩
    case round =>
      obtain ⟨a, b, rfl, rfl, ha, hb, hD⟩ := hrel
      by_cases ct : 4294967296 ≤ a ∨ b * 4294967296 + u1 < a * y0
      · have hn : 1 ≤ a ∧ Digit 4294967296 u y1 y0 u1 (a - 1) (b + y1) := by
          rcases ct with ct | ct
          · exact digit_big hD.out (by omega) (by omega) hUY.out (by omega) ct
          · exact digit_over hD.out (by omega) (by omega) ct
        have ha1 : 1 ≤ (a : Int) := by have := hn.1; omega
        have hN := Lib.hid hn.2
        clear hn
        have hz : 4294967296 ≤ (b : Int) + (y1 : Int) → (a : Int) - 1 = (Q : Int) := fun h => by
          have := digit_break hN.out (by omega) (by omega) (by omega) (by omega) (by omega)
          rw [← hQ.out] at this
          omega
        have hZ := Lib.hid hz
        clear hz
        by_cases cb : 4294967296 ≤ (a : Int)
        · clear ct
          by_cases cr : 4294967296 ≤ (b : Int) + (y1 : Int)
          · go_wp2
            go_meet
            exact ⟨by rw [hZ.out cr], rfl⟩
          · go_wp2
            go_round
            case rel => exact ⟨a - 1, b + y1, by go_num, by go_num, by omega, by omega, hN⟩
            case measure => simp [intOf]; omega
        · have cm : 4294967296 * (b : Int) + (u1 : Int) < (a : Int) * (y0 : Int) := by
            rcases ct with ct | ct
            · omega
            · have : ((b * 4294967296 + u1 : Nat) : Int) < ((a * y0 : Nat) : Int) := by omega
              rw [Int.natCast_mul] at this
              omega
          clear ct
          have cy : (a : Int) * (y0 : Int) ≤ 18446744073709551615 := by
            have := Nat.mul_le_mul (show a ≤ 4294967295 by omega) (show y0 ≤ 4294967295 by omega)
            have h2 : ((a * y0 : Nat) : Int) ≤ 18446744073709551615 := by omega
            rwa [Int.natCast_mul] at h2
          have cy0 : 0 ≤ (a : Int) * (y0 : Int) := by rw [← Int.natCast_mul]; omega
          by_cases cr : 4294967296 ≤ (b : Int) + (y1 : Int)
          · go_wp2
            go_meet
            exact ⟨by rw [hZ.out cr], rfl⟩
          · go_wp2
            go_round
            case rel => exact ⟨a - 1, b + y1, by go_num, by go_num, by omega, by omega, hN⟩
            case measure => simp [intOf]; omega
      · have cb : ¬ 4294967296 ≤ (a : Int) := by omega
        have cm : (a : Int) * (y0 : Int) ≤ 4294967296 * (b : Int) + (u1 : Int) := by
          have : ((a * y0 : Nat) : Int) ≤ ((b * 4294967296 + u1 : Nat) : Int) := by omega
          rw [Int.natCast_mul] at this
          omega
        have ez : a = Q := by
          rw [hQ.out]
          exact digit_end hD.out (by omega) (by omega) (by omega)
        have eZ := Lib.hid ez
        clear ct ez
        have cy : (a : Int) * (y0 : Int) ≤ 18446744073709551615 := by omega
        have cy0 : 0 ≤ (a : Int) * (y0 : Int) := by rw [← Int.natCast_mul]; omega
        go_wp2
        go_meet
        exact ⟨by rw [eZ.out], rfl⟩
  case rest =>
  obtain ⟨rfl, rfl⟩ := hcut
  go_upto_block 2 with fail
  go_cut [18] (fun s18 wx => s18 = .int .u64 Q' ∧ w = wx)
  case first =>
    go_wp2_with fail
    go_loop [18, 16] (fun s15 s16 => ∃ a b : Nat, s15 = .int .u64 a ∧ s16 = .int .u64 b ∧ (a : Int) ≤ 4294967297 ∧ (b : Int) ≤ 4294967295 ∧ Hid (Digit 4294967296 v y1 y0 u0 a b)) (fun s15 _ => (intOf s15).toNat)
    case atStart => exact ⟨q', r', rfl, rfl, hq', by omega, hd'⟩
    case round =>
      obtain ⟨a, b, rfl, rfl, ha, hb, hD⟩ := hrel
      by_cases ct : 4294967296 ≤ a ∨ b * 4294967296 + u0 < a * y0
      · have hn : 1 ≤ a ∧ Digit 4294967296 v y1 y0 u0 (a - 1) (b + y1) := by
          rcases ct with ct | ct
          · exact digit_big hD.out (by omega) (by omega) hVY.out (by omega) ct
          · exact digit_over hD.out (by omega) (by omega) ct
        have ha1 : 1 ≤ (a : Int) := by have := hn.1; omega
        have hN := Lib.hid hn.2
        clear hn
        have hz : 4294967296 ≤ (b : Int) + (y1 : Int) → (a : Int) - 1 = (Q' : Int) := fun h => by
          have := digit_break hN.out (by omega) (by omega) (by omega) (by omega) (by omega)
          rw [← hQ'.out] at this
          omega
        have hZ := Lib.hid hz
        clear hz
        by_cases cb : 4294967296 ≤ (a : Int)
        · clear ct
          by_cases cr : 4294967296 ≤ (b : Int) + (y1 : Int)
          · go_wp2
            go_meet
            exact ⟨by rw [hZ.out cr], rfl⟩
          · go_wp2
            go_round
            case rel => exact ⟨a - 1, b + y1, by go_num, by go_num, by omega, by omega, hN⟩
            case measure => simp [intOf]; omega
        · have cm : 4294967296 * (b : Int) + (u0 : Int) < (a : Int) * (y0 : Int) := by
            rcases ct with ct | ct
            · omega
            · have : ((b * 4294967296 + u0 : Nat) : Int) < ((a * y0 : Nat) : Int) := by omega
              rw [Int.natCast_mul] at this
              omega
          clear ct
          have cy : (a : Int) * (y0 : Int) ≤ 18446744073709551615 := by
            have := Nat.mul_le_mul (show a ≤ 4294967295 by omega) (show y0 ≤ 4294967295 by omega)
            have h2 : ((a * y0 : Nat) : Int) ≤ 18446744073709551615 := by omega
            rwa [Int.natCast_mul] at h2
          have cy0 : 0 ≤ (a : Int) * (y0 : Int) := by rw [← Int.natCast_mul]; omega
          by_cases cr : 4294967296 ≤ (b : Int) + (y1 : Int)
          · go_wp2
            go_meet
            exact ⟨by rw [hZ.out cr], rfl⟩
          · go_wp2
            go_round
            case rel => exact ⟨a - 1, b + y1, by go_num, by go_num, by omega, by omega, hN⟩
            case measure => simp [intOf]; omega
      · have cb : ¬ 4294967296 ≤ (a : Int) := by omega
        have cm : (a : Int) * (y0 : Int) ≤ 4294967296 * (b : Int) + (u0 : Int) := by
          have : ((a * y0 : Nat) : Int) ≤ ((b * 4294967296 + u0 : Nat) : Int) := by omega
          rw [Int.natCast_mul] at this
          omega
        have ez : a = Q' := by
          rw [hQ'.out]
          exact digit_end hD.out (by omega) (by omega) (by omega)
        have eZ := Lib.hid ez
        clear ct ez
        have cy : (a : Int) * (y0 : Int) ≤ 18446744073709551615 := by omega
        have cy0 : 0 ≤ (a : Int) * (y0 : Int) := by rw [← Int.natCast_mul]; omega
        go_wp2
        go_meet
        exact ⟨by rw [eZ.out], rfl⟩
  case rest =>
  obtain ⟨rfl, rfl⟩ := hcut
  go_wp2
  go_ret2
  exact ⟨rfl, rfl⟩

end Go.Proofs.Ytfhikdgdckfalaa

/- math/bits.Div64 returns quotient and remainder where the quotient fits. -/
namespace Go.Proofs.Ytfhikdgdckfalaa
open Go.RowKit Go.Proofs.Ytfhikdgdckfalaa.DivLaw
set_option linter.unusedVariables false
theorem digit_rest (u u1 Q Y v : Nat) (hY : Y < 18446744073709551616) (h : Y * Q + v = u * 4294967296 + u1) (hv : v < Y) :
    IntKind.u64.wrap (IntKind.u64.wrap (IntKind.u64.wrap ((u : Int) * 4294967296) + (u1 : Int)) - IntKind.u64.wrap ((Q : Int) * (Y : Int))) = (v : Int) := by
  have e : (Q : Int) * (Y : Int) = ((Y * Q : Nat) : Int) := by rw [Int.natCast_mul, Int.mul_comm]
  rw [e]
  generalize Y * Q = P at *
  simp only [IntKind.wrap_u64]
  omega

/-- One digit, in whole numbers of the walk. -/
theorem digit_int (u u1 y1 y0 : Nat) (hy : 2147483648 ≤ y1) (hY : y1 * 4294967296 + y0 < 18446744073709551616) (h0 : y0 < 4294967296) (h1 : u1 < 4294967296) (hu : u < y1 * 4294967296 + y0) :
    (u : Int) / (y1 : Int) = ((u / y1 : Nat) : Int) ∧ ((u / y1 : Nat) : Int) ≤ 4294967297 ∧ 0 ≤ ((u / y1 : Nat) : Int) * (y1 : Int) ∧ ((u / y1 : Nat) : Int) * (y1 : Int) ≤ (u : Int) ∧
      (u : Int) - ((u / y1 : Nat) : Int) * (y1 : Int) = ((u % y1 : Nat) : Int) ∧ ((u % y1 : Nat) : Int) < (y1 : Int) ∧
      (((u * 4294967296 + u1) / (y1 * 4294967296 + y0) : Nat) : Int) ≤ 4294967295 ∧
      IntKind.u64.wrap (IntKind.u64.wrap (IntKind.u64.wrap ((u : Int) * 4294967296) + (u1 : Int)) - IntKind.u64.wrap ((((u * 4294967296 + u1) / (y1 * 4294967296 + y0) : Nat) : Int) * ((y1 * 4294967296 + y0 : Nat) : Int))) =
        (((u * 4294967296 + u1) % (y1 * 4294967296 + y0) : Nat) : Int) ∧
      (u * 4294967296 + u1) % (y1 * 4294967296 + y0) < y1 * 4294967296 + y0 ∧
      Digit 4294967296 u y1 y0 u1 (u / y1) (u % y1) := by
  have a1 := digit_first (B := 4294967296) (by omega) h0 hu
  have a2 := digit_lt (B := 4294967296) (by omega) (by omega) hu h1
  have a3 := Nat.div_mul_le_self u y1
  have a4 := Nat.div_add_mod u y1
  have a5 := Nat.mod_lt u (show 0 < y1 by omega)
  have a6 := Nat.div_add_mod (u * 4294967296 + u1) (y1 * 4294967296 + y0)
  have a7 := Nat.mod_lt (u * 4294967296 + u1) (show 0 < y1 * 4294967296 + y0 by omega)
  refine ⟨(Int.natCast_ediv u y1).symm, by omega, ?_, ?_, ?_, by omega, by omega, ?_, a7, digit_start (by omega) (by omega) h1⟩
  · rw [← Int.natCast_mul]; omega
  · rw [← Int.natCast_mul]; omega
  · rw [← Int.natCast_mul]; rw [Nat.mul_comm] at a4; omega
  · exact digit_rest _ _ _ _ _ (by omega) a6 a7

theorem shift_parts (hi lo S : Nat) (hS : S ≤ 64) :
    lo * 2 ^ S / 18446744073709551616 = lo / 2 ^ (64 - S) ∧ (lo < 18446744073709551616 → lo / 2 ^ (64 - S) < 2 ^ S) ∧
      (hi * 2 ^ S + lo / 2 ^ (64 - S)) * 18446744073709551616 + lo * 2 ^ S % 18446744073709551616 = (hi * 18446744073709551616 + lo) * 2 ^ S := by
  have e : (18446744073709551616 : Nat) = 2 ^ (64 - S) * 2 ^ S := by rw [← Nat.pow_add, show 64 - S + S = 64 by omega]
  have h1 : lo * 2 ^ S / 18446744073709551616 = lo / 2 ^ (64 - S) := by rw [e, Nat.mul_div_mul_right _ _ (Nat.two_pow_pos S)]
  refine ⟨h1, fun h => ?_, ?_⟩
  · rw [Nat.div_lt_iff_lt_mul (Nat.two_pow_pos _), Nat.mul_comm, ← e]; exact h
  · have := Nat.div_add_mod (lo * 2 ^ S) 18446744073709551616
    rw [h1] at this
    rw [Nat.add_mul, Nat.add_mul, Nat.add_assoc, Nat.mul_comm (lo / 2 ^ (64 - S)), this, Nat.mul_right_comm]

set_option maxHeartbeats 1000000 in
theorem div64_fast (lo y : Nat) (hlo : (lo : Int) ≤ 18446744073709551615) (h0 : (0 : Int) < y) (hy : (y : Int) ≤ 18446744073709551615) (hy0 : ((y : Int) == 0) = false) (w : World) :
    Calls Try.prog 78 #[.int .u64 0, .int .u64 lo, .int .u64 y] w fun e w' => e = .returned (.tuple #[.int .u64 ((lo : Int) / (y : Int)), .int .u64 ((lo : Int) % (y : Int))]) ∧ ∃ n, w' = w.drewN n := by
  have h1 : IntKind.u64.wrap ((lo : Int) / (y : Int)) = (lo : Int) / (y : Int) := by
    have := IntWalk.tdiv_le (lo : Int) (y : Int) (by omega) (by omega)
    exact IntWalk.u64_in _ (by omega)
  go_enter Try.func78, Try.ntmps78
  go_wp2
  go_quiet (fail)
  go_wp2
  go_ret2
  exact ⟨rfl, _, rfl⟩

theorem two_words (u u1 u0 C : Nat) (h : C = u1 * 4294967296 + u0) : u * 18446744073709551616 + C = (u * 4294967296 + u1) * 4294967296 + u0 := by omega
theorem natCast_two_pow (k : Nat) : ((2 ^ k : Nat) : Int) = 2 ^ k := by simp

set_option maxHeartbeats 1000000 in
/-- math/bits.Div64: quotient and remainder of a number of 128 bits, where the quotient fits. -/
theorem div64_calls (hi lo y : Nat) (hlo : lo < 18446744073709551616) (hhi : hi < y) (hy : y < 18446744073709551616) (w : World) :
    Calls Try.prog 78 #[.int .u64 hi, .int .u64 lo, .int .u64 y] w fun e w' =>
      e = .returned (.tuple #[.int .u64 (((hi * 18446744073709551616 + lo) / y : Nat) : Int), .int .u64 (((hi * 18446744073709551616 + lo) % y : Nat) : Int)]) ∧ ∃ n, w' = w.drewN n := by
  have hb0 : ((y : Int) == 0) = false := by rw [beq_eq_false_iff_ne]; omega
  rcases Nat.eq_zero_or_pos hi with h0 | h0
  · subst h0
    refine (div64_fast lo y (by omega) (by omega) (by omega) hb0 w).mono ?_
    rintro e w' ⟨rfl, hw⟩
    refine ⟨?_, hw⟩
    rw [Nat.zero_mul, Nat.zero_add, Int.natCast_ediv, Int.natCast_emod]
  · obtain ⟨L1, L2, L3⟩ := Lib.bitLenAux_bounds 64 y (by omega) (by omega)
    have L4 : Lib.bitLen y ≤ 64 := Lib.bitLen_le y 64 (by omega) (by omega)
    have c := lz64_calls (y : Int) w (by omega) (by omega)
    rw [Int.toNat_natCast] at c
    change 2 ^ (Lib.bitLen y - 1) ≤ y at L2
    change y < 2 ^ Lib.bitLen y at L3
    change 1 ≤ Lib.bitLen y at L1
    obtain ⟨S, hS⟩ : ∃ S, S = 64 - Lib.bitLen y := ⟨_, rfl⟩
    rw [show (64 : Int) - ((Lib.bitLen y : Nat) : Int) = (S : Int) by omega] at c
    have p1 : 2 ^ 63 = 2 ^ (Lib.bitLen y - 1) * 2 ^ S := by rw [← Nat.pow_add]; congr 1; omega
    have p2 : 2 ^ 64 = 2 ^ Lib.bitLen y * 2 ^ S := by rw [← Nat.pow_add]; congr 1; omega
    have Y1 : 9223372036854775808 ≤ y * 2 ^ S := by
      have := Nat.mul_le_mul_right (2 ^ S) L2
      rw [← p1] at this; exact this
    have Y2 : y * 2 ^ S < 18446744073709551616 := by
      have := Nat.mul_lt_mul_of_pos_right L3 (Nat.two_pow_pos S)
      rw [← p2] at this; exact this
    obtain ⟨s1, s2, s3⟩ := shift_parts hi lo S (by omega)
    have s2 := s2 hlo
    have hA : hi * 2 ^ S < y * 2 ^ S := Nat.mul_lt_mul_of_pos_right hhi (Nat.two_pow_pos S)
    have hor : hi * 2 ^ S ||| lo / 2 ^ (64 - S) = hi * 2 ^ S + lo / 2 ^ (64 - S) := by
      rw [Nat.mul_comm hi, ← Nat.two_pow_add_eq_or_of_lt s2]
    have sh := shifted (hi * 18446744073709551616 + lo) y S
    rw [← s3] at sh
    obtain ⟨A, eA⟩ : ∃ A, A = hi * 2 ^ S := ⟨_, rfl⟩
    obtain ⟨Bv, eB⟩ : ∃ A, A = lo / 2 ^ (64 - S) := ⟨_, rfl⟩
    obtain ⟨C, eC⟩ : ∃ A, A = lo * 2 ^ S % 18446744073709551616 := ⟨_, rfl⟩
    obtain ⟨Y, eY⟩ : ∃ A, A = y * 2 ^ S := ⟨_, rfl⟩
    rw [← eA, ← eB, ← eC] at sh s3
    rw [← eY] at sh Y1 Y2 hA
    rw [← eA, ← eB] at hor
    rw [← eA] at hA
    have huY : A + Bv < Y := by
      have h1 : (hi * 18446744073709551616 + lo) * 2 ^ S < 18446744073709551616 * Y := by
        rw [eY, ← Nat.mul_assoc]
        exact Nat.mul_lt_mul_of_pos_right (by omega) (Nat.two_pow_pos S)
      omega
    have hC : C < 18446744073709551616 := by rw [eC]; exact Nat.mod_lt _ (by omega)
    obtain ⟨u, eu⟩ : ∃ u, u = A + Bv := ⟨_, rfl⟩
    rw [← eu] at sh huY hor
    have e6 := bits_or_u64_nat A Bv (by omega) (by omega)
    rw [hor] at e6
    have e3 := Mul64.maskN Y Y2
    have e9 := Mul64.maskN C hC
    obtain ⟨y1, ey1⟩ : ∃ a, a = Y / 4294967296 := ⟨_, rfl⟩
    obtain ⟨y0, ey0⟩ : ∃ a, a = Y % 4294967296 := ⟨_, rfl⟩
    obtain ⟨u1, eu1⟩ : ∃ a, a = C / 4294967296 := ⟨_, rfl⟩
    obtain ⟨u0, eu0⟩ : ∃ a, a = C % 4294967296 := ⟨_, rfl⟩
    rw [← ey0] at e3
    rw [← eu0] at e9
    have eYY : Y = y1 * 4294967296 + y0 := by omega
    have eCC : C = u1 * 4294967296 + u0 := by omega
    obtain ⟨a1, a2, a3, a4, a5, a6, a7, a8, a9, a10⟩ := digit_int u u1 y1 y0 (by omega) (by omega) (by omega) (by omega) (by omega)
    obtain ⟨b1, b2, b3, b4, b5, b6, b7, b8, b9, b10⟩ := digit_int ((u * 4294967296 + u1) % (y1 * 4294967296 + y0)) u0 y1 y0 (by omega) (by omega) (by omega) (by omega) a9
    have td := two_digits (B := 4294967296) u (y1 * 4294967296 + y0) u1 u0 (u * 18446744073709551616 + C) (two_words u u1 u0 C eCC) (by omega)
    rw [← eYY] at td a7 a8 a9 b1 b2 b3 b4 b5 b6 b7 b8 b9 b10
    have h1 : (y : Int) * 2 ^ S = (Y : Int) := by rw [eY, Int.natCast_mul, natCast_two_pow]
    have h4 : (hi : Int) * 2 ^ S = (A : Int) := by rw [eA, Int.natCast_mul, natCast_two_pow]
    have h5 : (lo : Int) / 2 ^ (64 - S) = (Bv : Int) := by rw [eB, Int.natCast_ediv, natCast_two_pow]
    have h7 : IntKind.u64.wrap ((lo : Int) * 2 ^ S) = (C : Int) := by
      have e : (lo : Int) * 2 ^ S = ((lo * 2 ^ S : Nat) : Int) := by rw [Int.natCast_mul, natCast_two_pow]
      rw [e, Mul64.wrapM, ← eC]
    refine (div64_slow hi lo y S Y A Bv u C y1 y0 u1 u0 _ _ _ _ _ _ _ _ (by omega) (by rw [beq_eq_false_iff_ne]; omega) (by omega) (by omega) hb0 (by omega)
      h1 (by omega) (by omega) e3 (by omega) (by omega) (by omega) h4 (by omega) h5 e6 (by omega) h7 (by omega) e9 (by omega) (by omega)
      a1 a2 a3 a4 a5 a6 (Lib.hid (by omega)) (Lib.hid (by rw [← eYY])) a7 a8 (by omega) (Lib.hid (by rw [← eYY]; exact a9)) b1 b2 b3 b4 b5 b6 (Lib.hid (by rw [← eYY])) b7 b8 (Lib.hid a10) (Lib.hid b10) w c).mono ?_
    rintro e w' ⟨rfl, rfl⟩
    refine ⟨?_, 0, rfl⟩
    rw [← sh.1, ← sh.2, ← td.1, ← td.2, Int.natCast_ediv _ (2 ^ S), natCast_two_pow, Int.natCast_add, Int.natCast_mul]
    rfl
end Go.Proofs.Ytfhikdgdckfalaa
