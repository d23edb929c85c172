/- The products and bit counts of math/bits: Mul64, Len64 and LeadingZeros64 return what they say. No conditions beyond the argument's own range. -/
import Derived.Test.YtfalmbcnbomaoaaProg
import Derived.WalkKit
import Derived.Lib.Mul64
import Derived.Lib.BitFns
import Derived.Lib.Small
import Derived.Lib.Strings
import Derived.Lib.Slices
import Derived.Lib.Walk
import Derived.Lib.Hide
import Derived.Lib.ItoaNum
import Derived.Laws.Bits64b
import Derived.WalkLawsBesides
import Derived.Deep.DeepCutAuto
import Derived.Deep.CutBlock
import Derived.Deep.QuietTactic
import Derived.Deep.Draws
import Derived.BigQuiet
import Derived.Test.YtfalmbcnbomaoaaDivLaw
namespace Go.Proofs.Ytfalmbcnbomaoaa
open Go.RowKit Go.Proofs.Ytfalmbcnbomaoaa.DivLaw
set_option linter.unusedVariables false

namespace Mul64
theorem maskN (a : Nat) (ha : a < 18446744073709551616) : bits .and .u64 (a : Int) 4294967295 = ((a % 4294967296 : Nat) : Int) := by
  have h := bits_and_u64_nat a 4294967295 ha (by omega)
  have e : a &&& 4294967295 = a % 4294967296 := Nat.and_two_pow_sub_one_eq_mod a 32
  rw [e] at h
  exact h
theorem divN (a : Nat) : (a : Int) / 4294967296 = ((a / 4294967296 : Nat) : Int) := by omega
theorem mulN (a b : Nat) : (a : Int) * (b : Int) = ((a * b : Nat) : Int) := (Int.natCast_mul a b).symm
theorem addN (a b : Nat) : (a : Int) + (b : Int) = ((a + b : Nat) : Int) := (Int.natCast_add a b).symm
theorem wrapN (a : Nat) (ha : a < 18446744073709551616) : IntKind.u64.wrap (a : Int) = (a : Int) := by rw [IntKind.wrap_u64]; omega
theorem wrapM (a : Nat) : IntKind.u64.wrap (a : Int) = ((a % 18446744073709551616 : Nat) : Int) := by rw [IntKind.wrap_u64]; omega
end Mul64

set_option maxHeartbeats 1000000 in
theorem mul64_calls (x y : Nat) (hx : x < 18446744073709551616) (hy : y < 18446744073709551616) (w : World) :
    Calls Try.prog 63 #[.int .u64 x, .int .u64 y] w fun e w' => e = .returned (.tuple #[.int .u64 ((x * y / 18446744073709551616 : Nat) : Int), .int .u64 ((x * y % 18446744073709551616 : Nat) : Int)]) ∧ w = w' := by
  obtain ⟨bd, bt, bw, hhi⟩ := Lib.mul64_hi x y hx hy
  have ba := Lib.half_mul_le (a := x / 4294967296) (b := y / 4294967296) (by omega) (by omega)
  have bb := Lib.half_mul_le (a := x / 4294967296) (b := y % 4294967296) (by omega) (by omega)
  have bc := Lib.half_mul_le (a := x % 4294967296) (b := y / 4294967296) (by omega) (by omega)
  have ba' : x / 4294967296 * (y / 4294967296) < 18446744073709551616 := by omega
  have bb' : x / 4294967296 * (y % 4294967296) < 18446744073709551616 := by omega
  have bc' : x % 4294967296 * (y / 4294967296) < 18446744073709551616 := by omega
  have bh1 : x / 4294967296 * (y / 4294967296) + (x / 4294967296 * (y % 4294967296) + x % 4294967296 * (y % 4294967296) / 4294967296) / 4294967296 < 18446744073709551616 := by omega
  have bh : x / 4294967296 * (y / 4294967296) + (x / 4294967296 * (y % 4294967296) + x % 4294967296 * (y % 4294967296) / 4294967296) / 4294967296 + ((x / 4294967296 * (y % 4294967296) + x % 4294967296 * (y % 4294967296) / 4294967296) % 4294967296 + x % 4294967296 * (y / 4294967296)) / 4294967296 < 18446744073709551616 := by omega
  go_enter Try.func63, Try.ntmps63
  go_wp2
  simp only [Mul64.maskN x hx, Mul64.maskN y hy, Mul64.divN, Mul64.mulN, Mul64.addN, Mul64.wrapN _ bd, Mul64.wrapN _ bb', Mul64.wrapN _ bt, Mul64.maskN _ bt, Mul64.wrapN _ bc', Mul64.wrapN _ bw, Mul64.wrapN _ ba', Mul64.wrapN _ bh1, Mul64.wrapN _ bh, Mul64.wrapM (x * y)]
  rw [hhi]
  go_ret2
  exact ⟨rfl, rfl⟩

/-- The table of bits.Len64 at a byte. -/
theorem tab_size : Lib.len8tab.size = 256 := by decide +kernel
theorem tab_all : ∀ n : Fin 256, (Lib.len8tab[n.val]'(by rw [tab_size]; exact n.isLt)).toNat = Lib.bitLen n.val := by decide +kernel
theorem tab_at (i : Int) (h0 : 0 ≤ i) (h : i.toNat < Lib.len8tab.size) : ((Lib.len8tab[i.toNat]'h).toNat : Int) = Lib.bitLen i.toNat ∧ Lib.bitLen i.toNat ≤ 8 := by
  have h' : i.toNat < 256 := by rw [tab_size] at h; exact h
  have := tab_all ⟨i.toNat, h'⟩
  exact ⟨by rw [← this], Lib.bitLen_le8 ⟨i.toNat, h'⟩⟩

set_option maxHeartbeats 400000 in
theorem len64_000 (x : Int) (w : World) (h0 : 0 ≤ x) (h1 : x ≤ 18446744073709551615) (h2 : x < 4294967296) (h3 : x < 65536) (h4 : x < 256) :
    Calls Try.prog 74 #[.int .u64 x] w fun e w' => e = .returned (.int .i64 (Lib.bitLen x.toNat)) ∧ w = w' := by
  have c4 : x < ((Lib.len8tab.size : Nat) : Int) := by rw [tab_size]; omega
  have t := tab_at (x) (by omega) (by rw [tab_size]; omega)
  have T := Lib.hid t
  clear t
  go_enter Try.func74, Try.ntmps74
  go_wp2
  go_ret
  refine ⟨congrArg Ending.returned (congrArg (Value.int IntKind.i64) ?_), rfl⟩
  have t1 := T.out.1
  have t2 := T.out.2
  unfold wrap64
  omega

set_option maxHeartbeats 400000 in
theorem len64_001 (x : Int) (w : World) (h0 : 0 ≤ x) (h1 : x ≤ 18446744073709551615) (h2 : x < 4294967296) (h3 : x < 65536) (h4 : 256 ≤ x) :
    Calls Try.prog 74 #[.int .u64 x] w fun e w' => e = .returned (.int .i64 (Lib.bitLen x.toNat)) ∧ w = w' := by
  have c4 : x / 256 < ((Lib.len8tab.size : Nat) : Int) := by rw [tab_size]; omega
  have t := tab_at (x / 256) (by omega) (by rw [tab_size]; omega)
  have s := Lib.bitLen_shift 8 x.toNat (by omega) (by omega)
  rw [show x.toNat / 2 ^ 8 = (x / 256).toNat from by omega] at s
  have T := Lib.hid t
  clear t
  have S := Lib.hid s
  clear s
  go_enter Try.func74, Try.ntmps74
  go_wp2
  go_ret
  refine ⟨congrArg Ending.returned (congrArg (Value.int IntKind.i64) ?_), rfl⟩
  have t1 := T.out.1
  have t2 := T.out.2
  have s1 := S.out
  unfold wrap64
  omega

set_option maxHeartbeats 400000 in
theorem len64_010 (x : Int) (w : World) (h0 : 0 ≤ x) (h1 : x ≤ 18446744073709551615) (h2 : x < 4294967296) (h3 : 65536 ≤ x) (h4 : x / 65536 < 256) :
    Calls Try.prog 74 #[.int .u64 x] w fun e w' => e = .returned (.int .i64 (Lib.bitLen x.toNat)) ∧ w = w' := by
  have c4 : x / 65536 < ((Lib.len8tab.size : Nat) : Int) := by rw [tab_size]; omega
  have t := tab_at (x / 65536) (by omega) (by rw [tab_size]; omega)
  have s := Lib.bitLen_shift 16 x.toNat (by omega) (by omega)
  rw [show x.toNat / 2 ^ 16 = (x / 65536).toNat from by omega] at s
  have T := Lib.hid t
  clear t
  have S := Lib.hid s
  clear s
  go_enter Try.func74, Try.ntmps74
  go_wp2
  go_ret
  refine ⟨congrArg Ending.returned (congrArg (Value.int IntKind.i64) ?_), rfl⟩
  have t1 := T.out.1
  have t2 := T.out.2
  have s1 := S.out
  unfold wrap64
  omega

set_option maxHeartbeats 400000 in
theorem len64_011 (x : Int) (w : World) (h0 : 0 ≤ x) (h1 : x ≤ 18446744073709551615) (h2 : x < 4294967296) (h3 : 65536 ≤ x) (h4 : 256 ≤ x / 65536) :
    Calls Try.prog 74 #[.int .u64 x] w fun e w' => e = .returned (.int .i64 (Lib.bitLen x.toNat)) ∧ w = w' := by
  have c4 : x / 65536 / 256 < ((Lib.len8tab.size : Nat) : Int) := by rw [tab_size]; omega
  have t := tab_at (x / 65536 / 256) (by omega) (by rw [tab_size]; omega)
  have s := Lib.bitLen_shift 24 x.toNat (by omega) (by omega)
  rw [show x.toNat / 2 ^ 24 = (x / 65536 / 256).toNat from by omega] at s
  have T := Lib.hid t
  clear t
  have S := Lib.hid s
  clear s
  go_enter Try.func74, Try.ntmps74
  go_wp2
  go_ret
  refine ⟨congrArg Ending.returned (congrArg (Value.int IntKind.i64) ?_), rfl⟩
  have t1 := T.out.1
  have t2 := T.out.2
  have s1 := S.out
  unfold wrap64
  omega

set_option maxHeartbeats 400000 in
theorem len64_100 (x : Int) (w : World) (h0 : 0 ≤ x) (h1 : x ≤ 18446744073709551615) (h2 : 4294967296 ≤ x) (h3 : x / 4294967296 < 65536) (h4 : x / 4294967296 < 256) :
    Calls Try.prog 74 #[.int .u64 x] w fun e w' => e = .returned (.int .i64 (Lib.bitLen x.toNat)) ∧ w = w' := by
  have c4 : x / 4294967296 < ((Lib.len8tab.size : Nat) : Int) := by rw [tab_size]; omega
  have t := tab_at (x / 4294967296) (by omega) (by rw [tab_size]; omega)
  have s := Lib.bitLen_shift 32 x.toNat (by omega) (by omega)
  rw [show x.toNat / 2 ^ 32 = (x / 4294967296).toNat from by omega] at s
  have T := Lib.hid t
  clear t
  have S := Lib.hid s
  clear s
  go_enter Try.func74, Try.ntmps74
  go_wp2
  go_ret
  refine ⟨congrArg Ending.returned (congrArg (Value.int IntKind.i64) ?_), rfl⟩
  have t1 := T.out.1
  have t2 := T.out.2
  have s1 := S.out
  unfold wrap64
  omega

set_option maxHeartbeats 400000 in
theorem len64_101 (x : Int) (w : World) (h0 : 0 ≤ x) (h1 : x ≤ 18446744073709551615) (h2 : 4294967296 ≤ x) (h3 : x / 4294967296 < 65536) (h4 : 256 ≤ x / 4294967296) :
    Calls Try.prog 74 #[.int .u64 x] w fun e w' => e = .returned (.int .i64 (Lib.bitLen x.toNat)) ∧ w = w' := by
  have c4 : x / 4294967296 / 256 < ((Lib.len8tab.size : Nat) : Int) := by rw [tab_size]; omega
  have t := tab_at (x / 4294967296 / 256) (by omega) (by rw [tab_size]; omega)
  have s := Lib.bitLen_shift 40 x.toNat (by omega) (by omega)
  rw [show x.toNat / 2 ^ 40 = (x / 4294967296 / 256).toNat from by omega] at s
  have T := Lib.hid t
  clear t
  have S := Lib.hid s
  clear s
  go_enter Try.func74, Try.ntmps74
  go_wp2
  go_ret
  refine ⟨congrArg Ending.returned (congrArg (Value.int IntKind.i64) ?_), rfl⟩
  have t1 := T.out.1
  have t2 := T.out.2
  have s1 := S.out
  unfold wrap64
  omega

set_option maxHeartbeats 400000 in
theorem len64_110 (x : Int) (w : World) (h0 : 0 ≤ x) (h1 : x ≤ 18446744073709551615) (h2 : 4294967296 ≤ x) (h3 : 65536 ≤ x / 4294967296) (h4 : x / 4294967296 / 65536 < 256) :
    Calls Try.prog 74 #[.int .u64 x] w fun e w' => e = .returned (.int .i64 (Lib.bitLen x.toNat)) ∧ w = w' := by
  have c4 : x / 4294967296 / 65536 < ((Lib.len8tab.size : Nat) : Int) := by rw [tab_size]; omega
  have t := tab_at (x / 4294967296 / 65536) (by omega) (by rw [tab_size]; omega)
  have s := Lib.bitLen_shift 48 x.toNat (by omega) (by omega)
  rw [show x.toNat / 2 ^ 48 = (x / 4294967296 / 65536).toNat from by omega] at s
  have T := Lib.hid t
  clear t
  have S := Lib.hid s
  clear s
  go_enter Try.func74, Try.ntmps74
  go_wp2
  go_ret
  refine ⟨congrArg Ending.returned (congrArg (Value.int IntKind.i64) ?_), rfl⟩
  have t1 := T.out.1
  have t2 := T.out.2
  have s1 := S.out
  unfold wrap64
  omega

set_option maxHeartbeats 400000 in
theorem len64_111 (x : Int) (w : World) (h0 : 0 ≤ x) (h1 : x ≤ 18446744073709551615) (h2 : 4294967296 ≤ x) (h3 : 65536 ≤ x / 4294967296) (h4 : 256 ≤ x / 4294967296 / 65536) :
    Calls Try.prog 74 #[.int .u64 x] w fun e w' => e = .returned (.int .i64 (Lib.bitLen x.toNat)) ∧ w = w' := by
  have c4 : x / 4294967296 / 65536 / 256 < ((Lib.len8tab.size : Nat) : Int) := by rw [tab_size]; omega
  have t := tab_at (x / 4294967296 / 65536 / 256) (by omega) (by rw [tab_size]; omega)
  have s := Lib.bitLen_shift 56 x.toNat (by omega) (by omega)
  rw [show x.toNat / 2 ^ 56 = (x / 4294967296 / 65536 / 256).toNat from by omega] at s
  have T := Lib.hid t
  clear t
  have S := Lib.hid s
  clear s
  go_enter Try.func74, Try.ntmps74
  go_wp2
  go_ret
  refine ⟨congrArg Ending.returned (congrArg (Value.int IntKind.i64) ?_), rfl⟩
  have t1 := T.out.1
  have t2 := T.out.2
  have s1 := S.out
  unfold wrap64
  omega

theorem len64_calls (x : Int) (w : World) (h0 : 0 ≤ x) (h1 : x ≤ 18446744073709551615) :
    Calls Try.prog 74 #[.int .u64 x] w fun e w' => e = .returned (.int .i64 (Lib.bitLen x.toNat)) ∧ w = w' := by
  by_cases c0 : x < 4294967296
  · by_cases c1 : x < 65536
    · by_cases c2 : x < 256
      · exact len64_000 x w h0 h1 (by omega) (by omega) (by omega)
      · exact len64_001 x w h0 h1 (by omega) (by omega) (by omega)
    · by_cases c2 : x / 65536 < 256
      · exact len64_010 x w h0 h1 (by omega) (by omega) (by omega)
      · exact len64_011 x w h0 h1 (by omega) (by omega) (by omega)
  · by_cases c1 : x / 4294967296 < 65536
    · by_cases c2 : x / 4294967296 < 256
      · exact len64_100 x w h0 h1 (by omega) (by omega) (by omega)
      · exact len64_101 x w h0 h1 (by omega) (by omega) (by omega)
    · by_cases c2 : x / 4294967296 / 65536 < 256
      · exact len64_110 x w h0 h1 (by omega) (by omega) (by omega)
      · exact len64_111 x w h0 h1 (by omega) (by omega) (by omega)

theorem lz64_calls (x : Int) (w : World) (h0 : 0 ≤ x) (h1 : x ≤ 18446744073709551615) :
    Calls Try.prog 71 #[.int .u64 x] w fun e w' => e = .returned (.int .i64 (64 - Lib.bitLen x.toNat)) ∧ w = w' := by
  have c := len64_calls x w h0 h1
  have hb : Lib.bitLen x.toNat ≤ 64 := Lib.bitLen_le x.toNat 64 (by omega) (by omega)
  have C := Lib.hid c
  clear c
  go_enter Try.func71, Try.ntmps71
  go_wp2_with (go_at_call 74; refine C.out.mono ?_; rintro e w' ⟨rfl, rfl⟩)
  go_ret
  exact ⟨rfl, rfl⟩
end Go.Proofs.Ytfalmbcnbomaoaa
