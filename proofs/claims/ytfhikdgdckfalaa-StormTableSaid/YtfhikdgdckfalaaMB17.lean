/- math/bits.Mul. -/
import Derived.Test.YtfhikdgdckfalaaProg
import Derived.WalkKit
import Derived.Lib.Mul64
import Derived.Lib.Small
import Derived.Lib.Walk
import Derived.Lib.Hide
import Derived.Laws.Bits64b
import Derived.Test.YtfhikdgdckfalaaMB01
import Derived.Laws.CopyOwn
import Derived.Laws.OwnMore
import Derived.Deep.RegionLaw
import Derived.IntWalk
import Derived.Test.YtfhikdgdckfalaaMB15
import Derived.Test.YtfhikdgdckfalaaMB16
import Derived.Handy

namespace Go.Proofs.Ytfhikdgdckfalaa
open Go.RowKit
set_option linter.unusedVariables false

namespace MulB
theorem maskN (a : Nat) (ha : a < 18446744073709551616) : bits .and .u64 (a : Int) 4294967295 = ((a % 4294967296 : Nat) : Int) := by
  have h := bits_and_u64_nat a 4294967295 ha (by omega)
  have e : a &&& 4294967295 = a % 4294967296 := Nat.and_two_pow_sub_one_eq_mod a 32
  rw [e] at h
  exact h
theorem divN (a : Nat) : (a : Int) / 4294967296 = ((a / 4294967296 : Nat) : Int) := by omega
theorem mulN (a b : Nat) : (a : Int) * (b : Int) = ((a * b : Nat) : Int) := (Int.natCast_mul a b).symm
theorem addN (a b : Nat) : (a : Int) + (b : Int) = ((a + b : Nat) : Int) := (Int.natCast_add a b).symm
theorem wrapN (a : Nat) (ha : a < 18446744073709551616) : IntKind.u64.wrap (a : Int) = (a : Int) := by rw [IntKind.wrap_u64]; omega
theorem wrapM (a : Nat) : IntKind.u64.wrap (a : Int) = ((a % 18446744073709551616 : Nat) : Int) := by rw [IntKind.wrap_u64]; omega
end MulB

set_option maxHeartbeats 1000000 in
theorem mulB64_calls (x y : Nat) (hx : x < 18446744073709551616) (hy : y < 18446744073709551616) (w : World) :
    Calls Try.prog 77 #[.int .u64 x, .int .u64 y] w fun e w' => e = .returned (.tuple #[.int .u64 ((x * y / 18446744073709551616 : Nat) : Int), .int .u64 ((x * y % 18446744073709551616 : Nat) : Int)]) ∧ w = w' := by
  obtain ⟨bd, bt, bw, hhi⟩ := Lib.mul64_hi x y hx hy
  have ba := Lib.half_mul_le (a := x / 4294967296) (b := y / 4294967296) (by omega) (by omega)
  have bb := Lib.half_mul_le (a := x / 4294967296) (b := y % 4294967296) (by omega) (by omega)
  have bc := Lib.half_mul_le (a := x % 4294967296) (b := y / 4294967296) (by omega) (by omega)
  have ba' : x / 4294967296 * (y / 4294967296) < 18446744073709551616 := by omega
  have bb' : x / 4294967296 * (y % 4294967296) < 18446744073709551616 := by omega
  have bc' : x % 4294967296 * (y / 4294967296) < 18446744073709551616 := by omega
  have bh1 : x / 4294967296 * (y / 4294967296) + (x / 4294967296 * (y % 4294967296) + x % 4294967296 * (y % 4294967296) / 4294967296) / 4294967296 < 18446744073709551616 := by omega
  have bh : x / 4294967296 * (y / 4294967296) + (x / 4294967296 * (y % 4294967296) + x % 4294967296 * (y % 4294967296) / 4294967296) / 4294967296 + ((x / 4294967296 * (y % 4294967296) + x % 4294967296 * (y % 4294967296) / 4294967296) % 4294967296 + x % 4294967296 * (y / 4294967296)) / 4294967296 < 18446744073709551616 := by omega
  go_enter Try.func77, Try.ntmps77
  go_wp2
  simp only [MulB.maskN x hx, MulB.maskN y hy, MulB.divN, MulB.mulN, MulB.addN, MulB.wrapN _ bd, MulB.wrapN _ bb', MulB.wrapN _ bt, MulB.maskN _ bt, MulB.wrapN _ bc', MulB.wrapN _ bw, MulB.wrapN _ ba', MulB.wrapN _ bh1, MulB.wrapN _ bh, MulB.wrapM (x * y)]
  rw [hhi]
  go_ret2
  exact ⟨rfl, rfl⟩

set_option maxHeartbeats 1000000 in
/-- One times a number. -/
theorem mul_one_calls (m : Nat) (hm : m ≤ 9223372036854775807) (w : World) :
    Calls Try.prog 64 #[.int .u64 1, .int .u64 m] w fun e w' => e = .returned (.tuple #[.int .u64 0, .int .u64 m]) ∧ w = w' := by
  have h := mulB64_calls 1 m (by omega) (by omega) w
  rw [Nat.one_mul, show m / 18446744073709551616 = 0 by omega, show m % 18446744073709551616 = m by omega] at h
  have H := Lib.hid h
  clear h
  have hm2 : (m : Int) ≤ 9223372036854775807 := by omega
  clear hm
  go_enter Try.func64, Try.ntmps64
  go_wp2_with fail
  refine (H.out).mono ?_
  rintro e w1 ⟨rfl, rfl⟩
  go_wp2
  go_ret2
  exact ⟨rfl, rfl⟩
end Go.Proofs.Ytfhikdgdckfalaa

/- slices.Repeat of a slice of one integer. -/
namespace Go.Proofs.Ytfhikdgdckfalaa
open Go.RowKit
set_option linter.unusedVariables false

/-- k values, then zeros. -/
def RepC (v : Int) (k m : Nat) : List Value := List.replicate k (.int .i64 v) ++ List.replicate (m - k) (.int .i64 0)
theorem RepC_len (v : Int) {k m : Nat} (h : k ≤ m) : (RepC v k m).length = m := by unfold RepC; simp; omega
theorem RepC_splice (v : Int) {k q m : Nat} (h : k + q ≤ m) : splice (RepC v k m) k (List.replicate q (.int .i64 v)) = RepC v (k + q) m := by
  unfold splice RepC
  rw [List.take_left' (by simp), List.length_replicate, List.drop_append, List.drop_eq_nil_of_le (by simp), List.nil_append, List.length_replicate, List.drop_replicate, ← List.append_assoc, List.replicate_append_replicate]
  congr 2
  omega
theorem RepC_get (v : Int) {k m j : Nat} (h : j < k) : (RepC v k m)[j]? = some (.int .i64 v) := by
  unfold RepC
  rw [List.getElem?_append_left (by simpa using h), List.getElem?_replicate, if_pos h]
structure RepAt (w : World) (g : Nat) (v : Int) (k m : Nat) : Prop where
  h : w.heap[g]? = some (.cells (RepC v k m).toArray 3 (0, 0))
  l : k ≤ m
theorem size_int : (Try.prog.info? 3).map (·.size) = some 1 := by kernel_rfl
theorem cell_of_heap {w : World} {g : Nat} {cs : List Value} {t : TypeId} (h : w.heap[g]? = some (.cells cs.toArray t (0, 0))) {j : Nat} {u : Value} (hj : cs[j]? = some u) : w.cell? ⟨g, j, none⟩ = some u := by
  rw [cell_of_row w g j _ _ _ h]
  simpa using hj
theorem Ints.heap {w : World} {g m : Nat} {v : Int} (h : w.heap[g]? = some (.cells (RepC v m m).toArray 3 (0, 0))) (hm : m ≤ 1000000) (hv : -9223372036854775808 ≤ v ∧ v ≤ 9223372036854775807) : Ints w (some ⟨g, 0, none⟩) m m (List.replicate m v) := by
  have hl : g < w.heap.size := by
    rcases Nat.lt_or_ge g w.heap.size with h1 | h1
    · exact h1
    · rw [Array.getElem?_eq_none h1] at h; cases h
  refine ⟨by simp, Nat.le_refl _, by omega, by omega, fun z hz => ?_, fun hn => ⟨_, rfl, hl, fun j hj => ?_⟩, fun e => by cases e⟩
  · rw [List.eq_of_mem_replicate hz]; exact hv
  · rw [show (⟨g, 0, none⟩ : Addr).add j = ⟨g, j, none⟩ from by rw [Addr.add_lit, Nat.zero_add]]
    rw [cell_of_heap h (RepC_get v hj)]
    unfold el
    rw [List.getD_eq_getElem?_getD, List.getElem?_replicate, if_pos hj]; rfl

set_option maxRecDepth 100000 in
set_option maxHeartbeats 4000000 in
theorem repeat_calls {ad : Addr} {c : Nat} {v : Int} (m : Nat) (w : World) (h : Ints w (some ad) 1 c [v]) (hm : (m : Int) ≤ 1000000) :
    Calls Try.prog 45 #[.slice (some ad) 1 c, .int .i64 m] w fun e w' => ∃ g, e = .returned (.slice (some ⟨g, 0, none⟩) m m) ∧ Ints w' (some ⟨g, 0, none⟩) m m (List.replicate m v) ∧ Below w.heap.size w w' := by
  have hcap := h.cap
  have hmax := h.max
  have hv : -9223372036854775808 ≤ v ∧ v ≤ 9223372036854775807 := h.rng v (by simp)
  have mk := make_ints m (by omega) w
  have hb1 : Below w.heap.size w (w.alloc (.cells (madeCells #[.int .i64 0] m) 3)) := (Below.refl _ _).alloc (Nat.le_refl _) _
  have hh1 : (w.alloc (.cells (madeCells #[.int .i64 0] m) 3)).heap[w.heap.size]? = some (.cells (RepC v 0 m).toArray 3 (0, 0)) := by
    have e : madeCells #[Value.int .i64 0] m = (RepC v 0 m).toArray := by
      apply Array.ext'
      rw [toList_madeCells_one]
      unfold RepC
      simp
    rw [← e]
    show (w.heap.push _)[w.heap.size]? = _
    rw [Array.getElem?_push, if_pos rfl]
  have I1 := Lib.hid (h.below hb1)
  have MU := Lib.hid (mul_one_calls m (by omega) w)
  obtain ⟨W1, hW1⟩ : ∃ W1, w.alloc (.cells (madeCells #[.int .i64 0] m) 3) = W1 := ⟨_, rfl⟩
  rw [hW1] at mk hb1 hh1 I1
  have HB1 := Lib.hid hb1
  have HH1 := Lib.hid hh1
  have HV := Lib.hid hv
  have MK := Lib.hid mk
  clear h hb1 hh1 hW1 hv
  by_cases hm0 : 0 < m
  · have hc1 : W1.cell? ad = some (.int .i64 v) := by
      obtain ⟨a2, e2, _, h3⟩ := I1.out.at_ (show 0 < 1 by omega)
      injection e2 with e2
      subst e2
      have e0 : ad.add 0 = ad := by unfold Addr.add; split <;> simp_all
      rwa [e0] at h3
    have HC := Lib.hid hc1
    have HCC : Hid (∀ (j : Nat) (u : Value), [Value.int .i64 v][j]? = some u → W1.cell? (ad.add j) = some u) := Lib.hid fun j u hj => by
      match j, hj with
      | 0, hj =>
        have e0 : ad.add 0 = ad := by unfold Addr.add; split <;> simp_all
        rw [e0]
        injection hj with hj
        rw [← hj]; exact hc1
    clear hc1
    go_enter Try.func45, Try.ntmps45
    go_wp2_with fail
    refine (MU.out).mono ?_
    rintro e w1 ⟨rfl, rfl⟩
    have mk2 := MK.out
    go_wp2_with (refine wpList_copy_splice (o := ⟨some 33, _, _, _, _, _⟩) rfl (.tmp 31) (.tmp 32) 23 23 rfl 3 Try.underlying23 size_int (some ⟨w.heap.size, 0, none⟩) (some ad) m m 1 c rfl rfl w.heap.size 0 (RepC v 0 m) 3 HH1.out [.int .i64 v] (by show 1 = min 1 m; omega) (fun _ => ⟨rfl, ad, rfl, fun j u hj => HCC.out j u hj⟩) (by rw [RepC_len v (by omega)]; show 0 + 1 ≤ m; omega) (by simp; rfl) w.heap.size w HB1.out (Nat.le_refl _) ?_; intro w2 h2 b2)
    have s1 : splice (RepC v 0 m) 0 [Value.int .i64 v] = RepC v 1 m := RepC_splice v (k := 0) (q := 1) (by omega)
    rw [s1] at h2
    have R2 : RepAt w2 w.heap.size v 1 m := ⟨h2.out, by omega⟩
    clear h2 s1 HH1 HC HCC mk2
    go_loopw [8] (fun i wr => ∃ k : Nat, 0 < k ∧ k ≤ m ∧ i = .int .i64 k ∧ RepAt wr w.heap.size v k m ∧ Below w.heap.size w wr) (fun i _ => m - (intOf i).toNat)
    case atStart => exact ⟨1, by omega, by omega, rfl, R2, b2⟩
    case round =>
      obtain ⟨k, hk0, hkm, rfl, hR, hb⟩ := hrel
      generalize wr = wo at *
      have HR := Lib.hid hR
      have HB := Lib.hid hb
      clear hR hb R2 b2
      by_cases hlt : k < m
      · obtain ⟨q, hq⟩ : ∃ q, min k (m - k) = q := ⟨_, rfl⟩
        have hq1 : k + q ≤ m := by omega
        have hq2 : 0 < q := by omega
        have hq3 : q ≤ k := by omega
        have RR := Lib.hid (RepC_splice v hq1)
        have HQ := Lib.hid hq
        have RN : Hid (∀ (j : Nat) (u : Value), (List.replicate q (Value.int .i64 v))[j]? = some u → wo.drew.cell? ((⟨w.heap.size, 0, none⟩ : Addr).add j) = some u) := Lib.hid fun j u hj => by
          rw [List.getElem?_replicate] at hj
          split at hj
          · injection hj with hj
            rw [show (⟨w.heap.size, 0, none⟩ : Addr).add j = ⟨w.heap.size, j, none⟩ from by rw [Addr.add_lit, Nat.zero_add], ← hj]
            exact cell_of_heap (w := wo) HR.out.h (RepC_get v (by omega))
          · cases hj
        have HD := Lib.hid (below_drewN HB.out 1)
        have c1 : (k : Int) < (m : Int) := by omega
        have c2 : (0 : Int) ≤ (k : Int) := by omega
        have c3 : (k : Int) ≤ (m : Int) := by omega
        have c4 : ¬ m = k := by omega
        have c5 : IntKind.i64.wrap ((k : Int) + (q : Int)) = (k : Int) + (q : Int) := IntWalk.i64_in _ (by omega)
        have c6 : (q : Int) ≤ (m : Int) := by omega
        clear hq
        go_wp2
        go_region_law (first
          | (refine step_copy_splice rfl (.tmp 41) (.tmp 44) 23 23 rfl 3 Try.underlying23 size_int (some ⟨w.heap.size, k, none⟩) (some ⟨w.heap.size, 0, none⟩) (m - k) (m - k) k m (by simp [Act.eval, Act.put]) (by simp [Act.eval, Act.put]) w.heap.size k (RepC v k m) 3 HR.out.h (List.replicate q (.int .i64 v)) (by rw [List.length_replicate]; exact HQ.out.symm) (fun _ => ⟨rfl, _, rfl, fun j u hj => RN.out j u hj⟩) (by rw [List.length_replicate, RepC_len v (by omega)]; omega) (fun u hu => by rw [List.eq_of_mem_replicate hu]; rfl) w.heap.size w HD.out (Nat.le_refl _) ?_; intro w3 h3 b3))
        rw [RR.out] at h3
        have R3 : RepAt w3 w.heap.size v (k + q) m := ⟨h3.out, hq1⟩
        clear h3 c5
        simp [Act.put]
        go_wp2
        exact ⟨⟨k + q, by omega, hq1, by simp, R3, b3⟩, by simp [intOf]; omega⟩
      · obtain rfl : k = m := by omega
        clear hlt
        go_wp2
        go_ret
        exact ⟨w.heap.size, rfl, Ints.heap HR.out.h (by omega) HV.out, HB.out⟩
  · obtain rfl : m = 0 := by omega
    have H0 := Lib.hid (Ints.heap (v := v) HH1.out (by omega) HV.out)
    clear hm0 HH1 HV mk
    go_enter Try.func45, Try.ntmps45
    go_wp2_with fail
    refine (MU.out).mono ?_
    rintro e w1 ⟨rfl, rfl⟩
    have mk2 := MK.out
    rw [show ((0 : Nat) : Int) = 0 from rfl] at mk2
    go_wp2_with ((refine wpList_copy_nothing (o := ⟨some 33, _, _, _, _, _⟩) rfl (.tmp 31) (.tmp 32) 23 23 rfl 3 Try.underlying23 size_int (some ⟨w.heap.size, 0, none⟩) (some ad) 0 0 1 c rfl rfl (by decide) ?_))
    go_wp2
    go_loop [8] (fun i => i = .int .i64 0) (fun _ => 0)
    case atStart => rfl
    case round =>
      obtain rfl := hrel
      go_wp2
      go_ret
      exact ⟨w.heap.size, rfl, H0.out, HB1.out⟩
end Go.Proofs.Ytfhikdgdckfalaa

/- Uniform storms: the program's, the reference's. -/
namespace Go.Proofs.Ytfhikdgdckfalaa
open Go.RowKit
set_option linter.unusedVariables false

theorem shd_ok {d f st : Int} {ws : List Int} (h : ShareOk d ws) : shdV d f st ws = (⟨f, st, shL d ws⟩, 0) := by
  unfold shdV; rw [shareV_ok h, if_pos rfl]

set_option maxHeartbeats 1000000 in
theorem ones_ref (n : Nat) (w : World) (hn : n ≤ 10000) : Calls Try.prog 47 #[.int .i64 n] w (Ret1 (onesL n) w) := by
  go_enter Try.func47, Try.ntmps47
  go_wp2
  go_loopw [3, 4] (fun v i wr => ∃ k : Nat, k ≤ n ∧ i = .int .i64 k ∧ Own wr w.heap.size v (onesL k) ∧ Below w.heap.size w wr) (fun _ i _ => n - (intOf i).toNat)
  case atStart => exact ⟨0, Nat.zero_le _, rfl, Own.nil _ _, Below.refl _ _⟩
  case round =>
    obtain ⟨k, hk, rfl, ho, hb⟩ := hrel
    generalize wr = wo at *
    have HO := Lib.hid ho
    have HB := Lib.hid hb
    have hsz := hb.size
    clear ho hb
    by_cases hlt : k < n
    · obtain ⟨A1, n1, c1, e1, -, -⟩ := HO.out.ints
      subst e1
      have hll : Hid ((onesL k).length = k) := Lib.hid (by unfold onesL; simp)
      have HE : Hid (onesL k ++ [1] = onesL (k + 1)) := Lib.hid (by unfold onesL; rw [← List.replicate_succ'])
      go_wp2_with (at_builtin; refine wpList_append_int wo w.heap.size _ (onesL k) 1 rfl _ _ rfl rfl rfl HO.out hsz (by rw [hll.out]; omega) (by omega) ?_)
      intro v3 w3 ho3 hb3
      rw [HE.out] at ho3
      have HO3 := Lib.hid ho3
      have HB3 := Lib.hid (HB.out.trans hb3)
      clear ho3 hb3
      go_wp2
      go_roundw
      case rel => exact ⟨k + 1, by omega, by go_num, HO3.out, HB3.out⟩
      case measure => simp [intOf]; try omega
    · obtain rfl : k = n := by omega
      obtain ⟨A1, n1, c1, e1, i1, g1⟩ := HO.out.ints
      subst e1
      have I1 := Lib.hid i1
      have G1 := Lib.hid g1
      clear i1 g1
      go_wp2
      go_ret
      exact ⟨A1, n1, c1, rfl, I1.out, HB.out, G1.out⟩

set_option maxRecDepth 100000 in
set_option maxHeartbeats 2000000 in
theorem Uniform_calls (d f st n : Int) (w : World) :
    Calls Try.prog 11 #[.int .i64 d, .int .i64 f, .int .i64 st, .int .i64 n] w (RetSer (uniV d f st n) w) := by
  obtain ⟨W0, hW0⟩ : ∃ W0, w.alloc (serO 0 0 none 0 0) = W0 := ⟨_, rfl⟩
  have hb0 : Below w.heap.size w W0 := by rw [← hW0]; exact (Below.refl _ _).alloc (Nat.le_refl _) _
  have z : ZBox W0 w.heap.size := by rw [← hW0]; exact ZBox.made w
  have Z0 := Lib.hid z
  have B0 := Lib.hid hb0
  have HW := Lib.hid hW0
  have fc := frame_calls f st n W0
  obtain ⟨V, hV⟩ : ∃ V, uniV d f st n = V := ⟨_, rfl⟩
  rw [hV]
  unfold uniV at hV
  have F2 := fin0 z B0.out 2
  obtain ⟨z0, z1, z2, f0, f1, f2, zl⟩ := z.cells
  clear hb0 z
  by_cases h1 : d < 0
  · rw [if_pos (.inl h1)] at hV
    subst hV
    clear fc
    go_enter Try.func11, Try.ntmps11
    go_wp2
    have q := F2.out
    generalize ((W0.setCell ⟨w.heap.size, 0, none⟩ (.int .i64 0)).setCell ⟨w.heap.size, 1, none⟩ (.int .i64 0)).setCell ⟨w.heap.size, 2, none⟩ (.slice none 0 0) = W3 at *
    obtain ⟨⟨⟨q0, q1, q2, -⟩, -, -, -, -⟩, q3⟩ := q
    exact bodyPost_ret (v := .tuple #[serA 0 0 none 0 0, .int .i64 2]) (by simp [results, Try.results11, go_sem, q0, q1, q2]) rfl q3
  · by_cases h2 : 4194304 < d
    · rw [if_pos (.inr (.inl h2))] at hV
      subst hV
      clear fc
      go_enter Try.func11, Try.ntmps11
      go_wp2
      have q := F2.out
      generalize ((W0.setCell ⟨w.heap.size, 0, none⟩ (.int .i64 0)).setCell ⟨w.heap.size, 1, none⟩ (.int .i64 0)).setCell ⟨w.heap.size, 2, none⟩ (.slice none 0 0) = W3 at *
      obtain ⟨⟨⟨q0, q1, q2, -⟩, -, -, -, -⟩, q3⟩ := q
      exact bodyPost_ret (v := .tuple #[serA 0 0 none 0 0, .int .i64 2]) (by simp [results, Try.results11, go_sem, q0, q1, q2]) rfl q3
    · cases hq : stB f st n
      · rw [if_pos (.inr (.inr hq))] at hV
        subst hV
        rw [hq] at fc
        have FC := Lib.hid fc
        clear fc hq
        go_enter Try.func11, Try.ntmps11
        go_wp2_with fail
        refine (FC.out).mono ?_
        rintro e w1 ⟨rfl, rfl⟩
        go_wp2
        have q := F2.out
        generalize ((W0.setCell ⟨w.heap.size, 0, none⟩ (.int .i64 0)).setCell ⟨w.heap.size, 1, none⟩ (.int .i64 0)).setCell ⟨w.heap.size, 2, none⟩ (.slice none 0 0) = W3 at *
        obtain ⟨⟨⟨q0, q1, q2, -⟩, -, -, -, -⟩, q3⟩ := q
        exact bodyPost_ret (v := .tuple #[serA 0 0 none 0 0, .int .i64 2]) (by simp [results, Try.results11, go_sem, q0, q1, q2]) rfl q3
      · rw [hq] at fc
        have ok := stB_iff.1 hq
        rw [if_neg (by intro h; rcases h with h | h | h; omega; omega; rw [hq] at h; cases h)] at hV
        obtain ⟨N, hN⟩ := Int.eq_ofNat_of_zero_le (show 0 ≤ n by have := ok.n0; omega)
        subst hN
        have n0 := ok.n0
        have n1 := ok.n1
        rw [Int.toNat_natCast] at hV
        subst hV
        have hso := ones_ok (d := d) (n := N) (by omega) (by omega) (by omega) (by omega)
        have FC := Lib.hid fc
        clear fc hq ok F2
        have il : Ints (W0.alloc (.cells #[.int .i64 1] 3)) (some ⟨W0.heap.size, 0, none⟩) 1 1 [1] := Ints.lit W0 [1] (by simp) (fun z hz => by rw [List.mem_singleton] at hz; rw [hz]; omega)
        have rc := repeat_calls N _ il (by omega)
        have ba : Below W0.heap.size W0 (W0.alloc (.cells #[.int .i64 1] 3)) := (Below.refl _ _).alloc (Nat.le_refl _) _
        have BA := Lib.hid ba
        have RC := Lib.hid rc
        have SH := Lib.hid (fun W A c (I : Ints W A N c (List.replicate N 1)) => (by
          have h1 := shared_calls d f st W I
          rw [show List.replicate N (1 : Int) = onesL N from rfl, shd_ok hso] at h1
          exact h1 : Calls Try.prog 44 #[.int .i64 d, .int .i64 f, .int .i64 st, .slice A N c] W (RetSer (⟨f, st, shL d (onesL N)⟩, 0) W)))
        clear il rc ba hso z0 z1 z2 f0 f1 f2 zl
        generalize shL d (onesL N) = L at *
        go_enter Try.func11, Try.ntmps11
        go_wp2_with fail
        refine (FC.out).mono ?_
        rintro e w1 ⟨rfl, rfl⟩
        go_wp2_with fail
        refine (RC.out).mono ?_
        rintro e w2 ⟨g, rfl, i2, b2⟩
        have I2 := Lib.hid i2
        have B2 := Lib.hid (below_then BA.out b2 BA.out.size)
        clear i2 b2
        go_wp2_with fail
        refine (SH.out _ _ _ I2.out).mono ?_
        rintro e w3 ⟨A3, n3, c3, rfl, i3, b3, g3⟩
        have hb3 := below_then B2.out b3 B2.out.size
        have hz := Z0.out.below hb3 Z0.out.b.lt
        have F := finS hz (below_then B0.out hb3 B0.out.size) ⟨f, st, L⟩ 0 i3 (fun ad e => by have h1 := g3 ad e; have h2 := B2.out.size; have h3 := Z0.out.b.lt; omega)
        obtain ⟨z0, z1, z2, f0, f1, f2, zl⟩ := hz.cells
        clear hz i3 b3 g3 hb3
        dsimp only at F
        go_wp2
        have q := F.out
        generalize ((w3.setCell ⟨w.heap.size, 0, none⟩ (.int .i64 f)).setCell ⟨w.heap.size, 1, none⟩ (.int .i64 st)).setCell ⟨w.heap.size, 2, none⟩ (.slice A3 n3 c3) = W3 at *
        obtain ⟨⟨⟨q0, q1, q2, -⟩, -, -, -, -⟩, q3⟩ := q
        exact bodyPost_ret (v := .tuple #[serA f st A3 n3 c3, .int .i64 0]) (by simp [results, Try.results11, go_sem, q0, q1, q2]) rfl q3

set_option maxRecDepth 100000 in
set_option maxHeartbeats 2000000 in
theorem Uniform_ref (d f st n : Int) (w : World) :
    Calls Try.prog 12 #[.int .i64 d, .int .i64 f, .int .i64 st, .int .i64 n] w (RetSer (uniV d f st n) w) := by
  obtain ⟨W0, hW0⟩ : ∃ W0, w.alloc (serO 0 0 none 0 0) = W0 := ⟨_, rfl⟩
  have hb0 : Below w.heap.size w W0 := by rw [← hW0]; exact (Below.refl _ _).alloc (Nat.le_refl _) _
  have z : ZBox W0 w.heap.size := by rw [← hW0]; exact ZBox.made w
  have Z0 := Lib.hid z
  have B0 := Lib.hid hb0
  have HW := Lib.hid hW0
  have fc := Frame_ref f st n W0
  obtain ⟨V, hV⟩ : ∃ V, uniV d f st n = V := ⟨_, rfl⟩
  rw [hV]
  unfold uniV at hV
  have F2 := fin0 z B0.out 2
  obtain ⟨z0, z1, z2, f0, f1, f2, zl⟩ := z.cells
  clear hb0 z
  by_cases h1 : d < 0
  · rw [if_pos (.inl h1)] at hV
    subst hV
    clear fc
    go_enter Try.func12, Try.ntmps12
    go_wp2
    have q := F2.out
    generalize ((W0.setCell ⟨w.heap.size, 0, none⟩ (.int .i64 0)).setCell ⟨w.heap.size, 1, none⟩ (.int .i64 0)).setCell ⟨w.heap.size, 2, none⟩ (.slice none 0 0) = W3 at *
    obtain ⟨⟨⟨q0, q1, q2, -⟩, -, -, -, -⟩, q3⟩ := q
    exact bodyPost_ret (v := .tuple #[serA 0 0 none 0 0, .int .i64 2]) (by simp [results, Try.results12, go_sem, q0, q1, q2]) rfl q3
  · by_cases h2 : 4194304 < d
    · rw [if_pos (.inr (.inl h2))] at hV
      subst hV
      clear fc
      go_enter Try.func12, Try.ntmps12
      go_wp2
      have q := F2.out
      generalize ((W0.setCell ⟨w.heap.size, 0, none⟩ (.int .i64 0)).setCell ⟨w.heap.size, 1, none⟩ (.int .i64 0)).setCell ⟨w.heap.size, 2, none⟩ (.slice none 0 0) = W3 at *
      obtain ⟨⟨⟨q0, q1, q2, -⟩, -, -, -, -⟩, q3⟩ := q
      exact bodyPost_ret (v := .tuple #[serA 0 0 none 0 0, .int .i64 2]) (by simp [results, Try.results12, go_sem, q0, q1, q2]) rfl q3
    · cases hq : stB f st n
      · rw [if_pos (.inr (.inr hq))] at hV
        subst hV
        rw [hq] at fc
        have FC := Lib.hid fc
        clear fc hq
        go_enter Try.func12, Try.ntmps12
        go_wp2_with fail
        refine (FC.out).mono ?_
        rintro e w1 ⟨rfl, rfl⟩
        go_wp2
        have q := F2.out
        generalize ((W0.setCell ⟨w.heap.size, 0, none⟩ (.int .i64 0)).setCell ⟨w.heap.size, 1, none⟩ (.int .i64 0)).setCell ⟨w.heap.size, 2, none⟩ (.slice none 0 0) = W3 at *
        obtain ⟨⟨⟨q0, q1, q2, -⟩, -, -, -, -⟩, q3⟩ := q
        exact bodyPost_ret (v := .tuple #[serA 0 0 none 0 0, .int .i64 2]) (by simp [results, Try.results12, go_sem, q0, q1, q2]) rfl q3
      · rw [hq] at fc
        have ok := stB_iff.1 hq
        rw [if_neg (by intro h; rcases h with h | h | h; omega; omega; rw [hq] at h; cases h)] at hV
        obtain ⟨N, hN⟩ := Int.eq_ofNat_of_zero_le (show 0 ≤ n by have := ok.n0; omega)
        subst hN
        have n0 := ok.n0
        have n1 := ok.n1
        rw [Int.toNat_natCast] at hV
        subst hV
        have hso := ones_ok (d := d) (n := N) (by omega) (by omega) (by omega) (by omega)
        have FC := Lib.hid fc
        clear fc hq ok F2
        have ON := Lib.hid (ones_ref N W0 (by omega))
        have SH := Lib.hid (fun W A c (I : Ints W A N c (onesL N)) => (by
          have h1 := Share_ref d W I
          rw [shareV_ok hso] at h1
          exact h1 : Calls Try.prog 46 #[.int .i64 d, .slice A N c] W (RetL (shL d (onesL N)) 0 W)))
        clear hso z0 z1 z2 f0 f1 f2 zl
        generalize shL d (onesL N) = L at *
        go_enter Try.func12, Try.ntmps12
        go_wp2_with fail
        refine (FC.out).mono ?_
        rintro e w1 ⟨rfl, rfl⟩
        go_wp2_with fail
        refine (ON.out).mono ?_
        rintro e w2 ⟨A2, n2, c2, rfl, i2, b2, -⟩
        obtain rfl : n2 = N := by rw [← i2.len]; unfold onesL; simp
        have I2 := Lib.hid i2
        have B2 := Lib.hid b2
        clear i2 b2
        go_wp2_with fail
        refine (SH.out _ _ _ I2.out).mono ?_
        rintro e w3 ⟨A3, n3, c3, rfl, i3, b3, g3⟩
        have hb3 := below_then B2.out b3 B2.out.size
        have hz := Z0.out.below hb3 Z0.out.b.lt
        have F := finS hz (below_then B0.out hb3 B0.out.size) ⟨f, st, L⟩ 0 i3 (fun ad e => by have h1 := g3 ad e; have h2 := B2.out.size; have h3 := Z0.out.b.lt; omega)
        obtain ⟨z0, z1, z2, f0, f1, f2, zl⟩ := hz.cells
        clear hz i3 b3 g3 hb3
        dsimp only at F
        go_wp2
        have q := F.out
        generalize ((w3.setCell ⟨w.heap.size, 0, none⟩ (.int .i64 f)).setCell ⟨w.heap.size, 1, none⟩ (.int .i64 st)).setCell ⟨w.heap.size, 2, none⟩ (.slice A3 n3 c3) = W3 at *
        obtain ⟨⟨⟨q0, q1, q2, -⟩, -, -, -, -⟩, q3⟩ := q
        exact bodyPost_ret (v := .tuple #[serA f st A3 n3 c3, .int .i64 0]) (by simp [results, Try.results12, go_sem, q0, q1, q2]) rfl q3
end Go.Proofs.Ytfhikdgdckfalaa
