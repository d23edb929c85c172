/- the law OpeningsGrow returns true -/
import Derived.Test.YtfalmbcnbomaoaaGA
import Derived.Test.YtfalmbcnbomaoaaGB
import Derived.Test.YtfalmbcnbomaoaaGC
namespace Go.Proofs.Ytfalmbcnbomaoaa
open Go.Proofs.Ytfalmbcnbomaoaa.DivLaw Go.Proofs.Ytfalmbcnbomaoaa.Open Go.RowKit
set_option linter.unusedVariables false

set_option maxRecDepth 100000 in
set_option maxHeartbeats 4000000 in
theorem Grow_out0 (n0 n1 n2 sc : ByteArray) (kd ln up dn wd ht : Int) (ca : Option Addr) (cn cc : Nat) (width area head s a b n : Int) (hn0 : 0 ≤ n) (hn1 : n ≤ 65535)  (d0 : width < 1) (w : World) :
    Calls Try.prog 6 #[.agg #[.string n0, .string n1, .string n2, .int .i64 kd, .int .i64 ln, .int .i64 up, .int .i64 dn, .string sc, .int .i64 wd, .int .i64 ht, .slice ca cn cc], .int .i64 width, .int .i64 area, .int .i64 head, .int .i64 s, .int .i64 a, .int .i64 b, .int .u16 n] w fun e w' => e = .returned (.bool true) ∧ Below w.heap.size w w' := by
  have dn : n ≤ 65535 := hn1
  go_enter Try.func6, Try.ntmps6
  go_wp2_with fail
  refine (awake_calls _).mono ?_
  rintro e v1 ⟨rfl, hb1⟩
  go_wp2_with fail
  go_returns
  exact ⟨rfl, below_then ((Below.refl _ w).alloc (Nat.le_refl _) _) hb1⟩

set_option maxRecDepth 100000 in
set_option maxHeartbeats 4000000 in
theorem Grow_out1 (n0 n1 n2 sc : ByteArray) (kd ln up dn wd ht : Int) (ca : Option Addr) (cn cc : Nat) (width area head s a b n : Int) (hn0 : 0 ≤ n) (hn1 : n ≤ 65535) (d0 : ¬ width < 1) (d1 : 1048576 - n < width) (w : World) :
    Calls Try.prog 6 #[.agg #[.string n0, .string n1, .string n2, .int .i64 kd, .int .i64 ln, .int .i64 up, .int .i64 dn, .string sc, .int .i64 wd, .int .i64 ht, .slice ca cn cc], .int .i64 width, .int .i64 area, .int .i64 head, .int .i64 s, .int .i64 a, .int .i64 b, .int .u16 n] w fun e w' => e = .returned (.bool true) ∧ Below w.heap.size w w' := by
  have dn : n ≤ 65535 := hn1
  go_enter Try.func6, Try.ntmps6
  go_wp2_with fail
  refine (awake_calls _).mono ?_
  rintro e v1 ⟨rfl, hb1⟩
  go_wp2_with fail
  go_returns
  exact ⟨rfl, below_then ((Below.refl _ w).alloc (Nat.le_refl _) _) hb1⟩

set_option maxRecDepth 100000 in
set_option maxHeartbeats 4000000 in
theorem Grow_out2 (n0 n1 n2 sc : ByteArray) (kd ln up dn wd ht : Int) (ca : Option Addr) (cn cc : Nat) (width area head s a b n : Int) (hn0 : 0 ≤ n) (hn1 : n ≤ 65535) (d0 : ¬ width < 1) (d1 : ¬ 1048576 - n < width) (d2 : area < 0) (w : World) :
    Calls Try.prog 6 #[.agg #[.string n0, .string n1, .string n2, .int .i64 kd, .int .i64 ln, .int .i64 up, .int .i64 dn, .string sc, .int .i64 wd, .int .i64 ht, .slice ca cn cc], .int .i64 width, .int .i64 area, .int .i64 head, .int .i64 s, .int .i64 a, .int .i64 b, .int .u16 n] w fun e w' => e = .returned (.bool true) ∧ Below w.heap.size w w' := by
  have dn : n ≤ 65535 := hn1
  go_enter Try.func6, Try.ntmps6
  go_wp2_with fail
  refine (awake_calls _).mono ?_
  rintro e v1 ⟨rfl, hb1⟩
  go_wp2_with fail
  go_returns
  exact ⟨rfl, below_then ((Below.refl _ w).alloc (Nat.le_refl _) _) hb1⟩

set_option maxRecDepth 100000 in
set_option maxHeartbeats 4000000 in
theorem Grow_out3 (n0 n1 n2 sc : ByteArray) (kd ln up dn wd ht : Int) (ca : Option Addr) (cn cc : Nat) (width area head s a b n : Int) (hn0 : 0 ≤ n) (hn1 : n ≤ 65535) (d0 : ¬ width < 1) (d1 : ¬ 1048576 - n < width) (d2 : ¬ area < 0) (d3 : 1073741824 - n < area) (w : World) :
    Calls Try.prog 6 #[.agg #[.string n0, .string n1, .string n2, .int .i64 kd, .int .i64 ln, .int .i64 up, .int .i64 dn, .string sc, .int .i64 wd, .int .i64 ht, .slice ca cn cc], .int .i64 width, .int .i64 area, .int .i64 head, .int .i64 s, .int .i64 a, .int .i64 b, .int .u16 n] w fun e w' => e = .returned (.bool true) ∧ Below w.heap.size w w' := by
  have dn : n ≤ 65535 := hn1
  go_enter Try.func6, Try.ntmps6
  go_wp2_with fail
  refine (awake_calls _).mono ?_
  rintro e v1 ⟨rfl, hb1⟩
  go_wp2_with fail
  go_returns
  exact ⟨rfl, below_then ((Below.refl _ w).alloc (Nat.le_refl _) _) hb1⟩

set_option maxRecDepth 100000 in
set_option maxHeartbeats 4000000 in
theorem Grow_out4 (n0 n1 n2 sc : ByteArray) (kd ln up dn wd ht : Int) (ca : Option Addr) (cn cc : Nat) (width area head s a b n : Int) (hn0 : 0 ≤ n) (hn1 : n ≤ 65535) (d0 : ¬ width < 1) (d1 : ¬ 1048576 - n < width) (d2 : ¬ area < 0) (d3 : ¬ 1073741824 - n < area) (d4 : head < 0) (w : World) :
    Calls Try.prog 6 #[.agg #[.string n0, .string n1, .string n2, .int .i64 kd, .int .i64 ln, .int .i64 up, .int .i64 dn, .string sc, .int .i64 wd, .int .i64 ht, .slice ca cn cc], .int .i64 width, .int .i64 area, .int .i64 head, .int .i64 s, .int .i64 a, .int .i64 b, .int .u16 n] w fun e w' => e = .returned (.bool true) ∧ Below w.heap.size w w' := by
  have dn : n ≤ 65535 := hn1
  go_enter Try.func6, Try.ntmps6
  go_wp2_with fail
  refine (awake_calls _).mono ?_
  rintro e v1 ⟨rfl, hb1⟩
  go_wp2_with fail
  go_returns
  exact ⟨rfl, below_then ((Below.refl _ w).alloc (Nat.le_refl _) _) hb1⟩

set_option maxRecDepth 100000 in
set_option maxHeartbeats 4000000 in
theorem Grow_out5 (n0 n1 n2 sc : ByteArray) (kd ln up dn wd ht : Int) (ca : Option Addr) (cn cc : Nat) (width area head s a b n : Int) (hn0 : 0 ≤ n) (hn1 : n ≤ 65535) (d0 : ¬ width < 1) (d1 : ¬ 1048576 - n < width) (d2 : ¬ area < 0) (d3 : ¬ 1073741824 - n < area) (d4 : ¬ head < 0) (d5 : 1048576 - n < head) (w : World) :
    Calls Try.prog 6 #[.agg #[.string n0, .string n1, .string n2, .int .i64 kd, .int .i64 ln, .int .i64 up, .int .i64 dn, .string sc, .int .i64 wd, .int .i64 ht, .slice ca cn cc], .int .i64 width, .int .i64 area, .int .i64 head, .int .i64 s, .int .i64 a, .int .i64 b, .int .u16 n] w fun e w' => e = .returned (.bool true) ∧ Below w.heap.size w w' := by
  have dn : n ≤ 65535 := hn1
  go_enter Try.func6, Try.ntmps6
  go_wp2_with fail
  refine (awake_calls _).mono ?_
  rintro e v1 ⟨rfl, hb1⟩
  go_wp2_with fail
  go_returns
  exact ⟨rfl, below_then ((Below.refl _ w).alloc (Nat.le_refl _) _) hb1⟩

theorem Grow_calls (n0 n1 n2 sc : ByteArray) (kd ln up dn wd ht : Int) (ca : Option Addr) (cn cc : Nat) (width area head s a b n : Int) (hn0 : 0 ≤ n) (hn1 : n ≤ 65535) (w : World) : Calls Try.prog 6 #[.agg #[.string n0, .string n1, .string n2, .int .i64 kd, .int .i64 ln, .int .i64 up, .int .i64 dn, .string sc, .int .i64 wd, .int .i64 ht, .slice ca cn cc], .int .i64 width, .int .i64 area, .int .i64 head, .int .i64 s, .int .i64 a, .int .i64 b, .int .u16 n] w fun e w' => e = .returned (.bool true) ∧ Below w.heap.size w w' := by
  by_cases d0 : width < 1
  · exact Grow_out0 n0 n1 n2 sc kd ln up dn wd ht ca cn cc width area head s a b n hn0 hn1 d0 w
  by_cases d1 : 1048576 - n < width
  · exact Grow_out1 n0 n1 n2 sc kd ln up dn wd ht ca cn cc width area head s a b n hn0 hn1 d0 d1 w
  by_cases d2 : area < 0
  · exact Grow_out2 n0 n1 n2 sc kd ln up dn wd ht ca cn cc width area head s a b n hn0 hn1 d0 d1 d2 w
  by_cases d3 : 1073741824 - n < area
  · exact Grow_out3 n0 n1 n2 sc kd ln up dn wd ht ca cn cc width area head s a b n hn0 hn1 d0 d1 d2 d3 w
  by_cases d4 : head < 0
  · exact Grow_out4 n0 n1 n2 sc kd ln up dn wd ht ca cn cc width area head s a b n hn0 hn1 d0 d1 d2 d3 d4 w
  by_cases d5 : 1048576 - n < head
  · exact Grow_out5 n0 n1 n2 sc kd ln up dn wd ht ca cn cc width area head s a b n hn0 hn1 d0 d1 d2 d3 d4 d5 w
  by_cases hk : levelB a = true ∧ levelB b = true ∧ a ≤ 4194304 - n ∧ b ≤ 4194304 - n ∧ 0 ≤ s ∧ s ≤ 1000
  · obtain ⟨ha, hb, t0, t1, t2, t3⟩ := hk
    cases hw : isWeirB kd up wd
    · cases hg : isGateB kd up wd ht
      · exact Grow_no n0 n1 n2 sc kd ln up dn wd ht ca cn cc width area head s a b n hn0 hn1 (by omega) (by omega) (by omega) (by omega) (by omega) (by omega) (fun _ _ _ _ _ _ => ⟨hw, hg⟩) w
      · exact Grow_gate n0 n1 n2 sc kd ln up dn wd ht ca cn cc width area head s a b n hn0 hn1 (by omega) (by omega) (by omega) (by omega) (by omega) (by omega) ha hb t0 t1 t2 t3 hw hg w
    · exact Grow_weir n0 n1 n2 sc kd ln up dn wd ht ca cn cc width area head s a b n hn0 hn1 (by omega) (by omega) (by omega) (by omega) (by omega) (by omega) ha hb t0 t1 t2 t3 hw w
  · exact Grow_no n0 n1 n2 sc kd ln up dn wd ht ca cn cc width area head s a b n hn0 hn1 (by omega) (by omega) (by omega) (by omega) (by omega) (by omega) (fun h1 h2 h3 h4 h5 h6 => absurd ⟨h1, h2, h3, h4, h5, h6⟩ hk) w
end Go.Proofs.Ytfalmbcnbomaoaa
