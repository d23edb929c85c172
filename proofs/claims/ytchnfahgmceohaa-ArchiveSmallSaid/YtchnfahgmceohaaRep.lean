/- slices.Repeat of a slice of one integer. -/
import Derived.Test.YtchnfahgmceohaaMul
import Derived.Test.YtchnfahgmceohaaOwn
import Derived.Laws.CopyOwn
import Derived.Laws.OwnMore
import Derived.Deep.RegionLaw
import Derived.IntWalk
namespace Go.Proofs.Ytchnfahgmceohaa
open Go.RowKit
set_option linter.unusedVariables false

/-- k values, then zeros. -/
def RepC (v : Int) (k m : Nat) : List Value := List.replicate k (.int .i64 v) ++ List.replicate (m - k) (.int .i64 0)
theorem RepC_len (v : Int) {k m : Nat} (h : k ≤ m) : (RepC v k m).length = m := by unfold RepC; simp; omega
theorem RepC_splice (v : Int) {k q m : Nat} (h : k + q ≤ m) : splice (RepC v k m) k (List.replicate q (.int .i64 v)) = RepC v (k + q) m := by
  unfold splice RepC
  rw [List.take_left' (by simp), List.length_replicate, List.drop_append, List.drop_eq_nil_of_le (by simp), List.nil_append, List.length_replicate, List.drop_replicate, ← List.append_assoc, List.replicate_append_replicate]
  congr 2
  omega
theorem RepC_get (v : Int) {k m j : Nat} (h : j < k) : (RepC v k m)[j]? = some (.int .i64 v) := by
  unfold RepC
  rw [List.getElem?_append_left (by simpa using h), List.getElem?_replicate, if_pos h]
structure RepAt (w : World) (g : Nat) (v : Int) (k m : Nat) : Prop where
  h : w.heap[g]? = some (.cells (RepC v k m).toArray 3 (0, 0))
  l : k ≤ m
theorem size_int : (Try.prog.info? 3).map (·.size) = some 1 := by kernel_rfl
theorem cell_of_heap {w : World} {g : Nat} {cs : List Value} {t : TypeId} (h : w.heap[g]? = some (.cells cs.toArray t (0, 0))) {j : Nat} {u : Value} (hj : cs[j]? = some u) : w.cell? ⟨g, j, none⟩ = some u := by
  rw [cell_of_row w g j _ _ _ h]
  simpa using hj
theorem Ints.heap {w : World} {g m : Nat} {v : Int} (h : w.heap[g]? = some (.cells (RepC v m m).toArray 3 (0, 0))) (hm : m ≤ 1000000) (hv : -9223372036854775808 ≤ v ∧ v ≤ 9223372036854775807) : Ints w (some ⟨g, 0, none⟩) m m (List.replicate m v) := by
  have hl : g < w.heap.size := by
    rcases Nat.lt_or_ge g w.heap.size with h1 | h1
    · exact h1
    · rw [Array.getElem?_eq_none h1] at h; cases h
  refine ⟨by simp, Nat.le_refl _, by omega, by omega, fun z hz => ?_, fun hn => ⟨_, rfl, hl, fun j hj => ?_⟩, fun e => by cases e⟩
  · rw [List.eq_of_mem_replicate hz]; exact hv
  · rw [show (⟨g, 0, none⟩ : Addr).add j = ⟨g, j, none⟩ from by rw [Addr.add_lit, Nat.zero_add]]
    rw [cell_of_heap h (RepC_get v hj)]
    unfold el
    rw [List.getD_eq_getElem?_getD, List.getElem?_replicate, if_pos hj]; rfl

set_option maxRecDepth 100000 in
set_option maxHeartbeats 4000000 in
theorem repeat_calls {ad : Addr} {c : Nat} {v : Int} (m : Nat) (w : World) (h : Ints w (some ad) 1 c [v]) (hm : (m : Int) ≤ 1000000) :
    Calls Try.prog 25 #[.slice (some ad) 1 c, .int .i64 m] w fun e w' => ∃ g, e = .returned (.slice (some ⟨g, 0, none⟩) m m) ∧ Ints w' (some ⟨g, 0, none⟩) m m (List.replicate m v) ∧ Below w.heap.size w w' := by
  have hcap := h.cap
  have hmax := h.max
  have hv : -9223372036854775808 ≤ v ∧ v ≤ 9223372036854775807 := h.rng v (by simp)
  have mk := make_ints m (by omega) w
  have hb1 : Below w.heap.size w (w.alloc (.cells (madeCells #[.int .i64 0] m) 3)) := (Below.refl _ _).alloc (Nat.le_refl _) _
  have hh1 : (w.alloc (.cells (madeCells #[.int .i64 0] m) 3)).heap[w.heap.size]? = some (.cells (RepC v 0 m).toArray 3 (0, 0)) := by
    have e : madeCells #[Value.int .i64 0] m = (RepC v 0 m).toArray := by
      apply Array.ext'
      rw [toList_madeCells_one]
      unfold RepC
      simp
    rw [← e]
    show (w.heap.push _)[w.heap.size]? = _
    rw [Array.getElem?_push, if_pos rfl]
  have I1 := Lib.hid (h.below hb1)
  have MU := Lib.hid (mul_one_calls m (by omega) w)
  obtain ⟨W1, hW1⟩ : ∃ W1, w.alloc (.cells (madeCells #[.int .i64 0] m) 3) = W1 := ⟨_, rfl⟩
  rw [hW1] at mk hb1 hh1 I1
  have HB1 := Lib.hid hb1
  have HH1 := Lib.hid hh1
  have HV := Lib.hid hv
  have MK := Lib.hid mk
  clear h hb1 hh1 hW1 hv
  by_cases hm0 : 0 < m
  · have hc1 : W1.cell? ad = some (.int .i64 v) := by
      obtain ⟨a2, e2, _, h3⟩ := I1.out.at_ (show 0 < 1 by omega)
      injection e2 with e2
      subst e2
      have e0 : ad.add 0 = ad := by unfold Addr.add; split <;> simp_all
      rwa [e0] at h3
    have HC := Lib.hid hc1
    have HCC : Hid (∀ (j : Nat) (u : Value), [Value.int .i64 v][j]? = some u → W1.cell? (ad.add j) = some u) := Lib.hid fun j u hj => by
      match j, hj with
      | 0, hj =>
        have e0 : ad.add 0 = ad := by unfold Addr.add; split <;> simp_all
        rw [e0]
        injection hj with hj
        rw [← hj]; exact hc1
    clear hc1
    go_enter Try.func25, Try.ntmps25
    go_wp2_with fail
    refine (MU.out).mono ?_
    rintro e w1 ⟨rfl, rfl⟩
    have mk2 := MK.out
    go_wp2_with (refine wpList_copy_splice (o := ⟨some 33, _, _, _, _, _⟩) rfl (.tmp 31) (.tmp 32) 34 34 rfl 3 Try.underlying34 size_int (some ⟨w.heap.size, 0, none⟩) (some ad) m m 1 c rfl rfl w.heap.size 0 (RepC v 0 m) 3 HH1.out [.int .i64 v] (by show 1 = min 1 m; omega) (fun _ => ⟨rfl, ad, rfl, fun j u hj => HCC.out j u hj⟩) (by rw [RepC_len v (by omega)]; show 0 + 1 ≤ m; omega) (by simp; rfl) w.heap.size w HB1.out (Nat.le_refl _) ?_; intro w2 h2 b2)
    have s1 : splice (RepC v 0 m) 0 [Value.int .i64 v] = RepC v 1 m := RepC_splice v (k := 0) (q := 1) (by omega)
    rw [s1] at h2
    have R2 : RepAt w2 w.heap.size v 1 m := ⟨h2.out, by omega⟩
    clear h2 s1 HH1 HC HCC mk2
    go_loopw [8] (fun i wr => ∃ k : Nat, 0 < k ∧ k ≤ m ∧ i = .int .i64 k ∧ RepAt wr w.heap.size v k m ∧ Below w.heap.size w wr) (fun i _ => m - (intOf i).toNat)
    case atStart => exact ⟨1, by omega, by omega, rfl, R2, b2⟩
    case round =>
      obtain ⟨k, hk0, hkm, rfl, hR, hb⟩ := hrel
      generalize wr = wo at *
      have HR := Lib.hid hR
      have HB := Lib.hid hb
      clear hR hb R2 b2
      by_cases hlt : k < m
      · obtain ⟨q, hq⟩ : ∃ q, min k (m - k) = q := ⟨_, rfl⟩
        have hq1 : k + q ≤ m := by omega
        have hq2 : 0 < q := by omega
        have hq3 : q ≤ k := by omega
        have RR := Lib.hid (RepC_splice v hq1)
        have HQ := Lib.hid hq
        have RN : Hid (∀ (j : Nat) (u : Value), (List.replicate q (Value.int .i64 v))[j]? = some u → wo.drew.cell? ((⟨w.heap.size, 0, none⟩ : Addr).add j) = some u) := Lib.hid fun j u hj => by
          rw [List.getElem?_replicate] at hj
          split at hj
          · injection hj with hj
            rw [show (⟨w.heap.size, 0, none⟩ : Addr).add j = ⟨w.heap.size, j, none⟩ from by rw [Addr.add_lit, Nat.zero_add], ← hj]
            exact cell_of_heap (w := wo) HR.out.h (RepC_get v (by omega))
          · cases hj
        have HD := Lib.hid (below_drewN HB.out 1)
        have c1 : (k : Int) < (m : Int) := by omega
        have c2 : (0 : Int) ≤ (k : Int) := by omega
        have c3 : (k : Int) ≤ (m : Int) := by omega
        have c4 : ¬ m = k := by omega
        have c5 : IntKind.i64.wrap ((k : Int) + (q : Int)) = (k : Int) + (q : Int) := IntWalk.i64_in _ (by omega)
        have c6 : (q : Int) ≤ (m : Int) := by omega
        clear hq
        go_wp2
        go_region_law (first
          | (refine step_copy_splice rfl (.tmp 41) (.tmp 44) 34 34 rfl 3 Try.underlying34 size_int (some ⟨w.heap.size, k, none⟩) (some ⟨w.heap.size, 0, none⟩) (m - k) (m - k) k m (by simp [Act.eval, Act.put]) (by simp [Act.eval, Act.put]) w.heap.size k (RepC v k m) 3 HR.out.h (List.replicate q (.int .i64 v)) (by rw [List.length_replicate]; exact HQ.out.symm) (fun _ => ⟨rfl, _, rfl, fun j u hj => RN.out j u hj⟩) (by rw [List.length_replicate, RepC_len v (by omega)]; omega) (fun u hu => by rw [List.eq_of_mem_replicate hu]; rfl) w.heap.size w HD.out (Nat.le_refl _) ?_; intro w3 h3 b3))
        rw [RR.out] at h3
        have R3 : RepAt w3 w.heap.size v (k + q) m := ⟨h3.out, hq1⟩
        clear h3 c5
        simp [Act.put]
        go_wp2
        exact ⟨⟨k + q, by omega, hq1, by simp, R3, b3⟩, by simp [intOf]; omega⟩
      · obtain rfl : k = m := by omega
        clear hlt
        go_wp2
        go_ret
        exact ⟨w.heap.size, rfl, Ints.heap HR.out.h (by omega) HV.out, HB.out⟩
  · obtain rfl : m = 0 := by omega
    have H0 := Lib.hid (Ints.heap (v := v) HH1.out (by omega) HV.out)
    clear hm0 HH1 HV mk
    go_enter Try.func25, Try.ntmps25
    go_wp2_with fail
    refine (MU.out).mono ?_
    rintro e w1 ⟨rfl, rfl⟩
    have mk2 := MK.out
    rw [show ((0 : Nat) : Int) = 0 from rfl] at mk2
    go_wp2_with ((refine wpList_copy_nothing (o := ⟨some 33, _, _, _, _, _⟩) rfl (.tmp 31) (.tmp 32) 34 34 rfl 3 Try.underlying34 size_int (some ⟨w.heap.size, 0, none⟩) (some ad) 0 0 1 c rfl rfl (by decide) ?_))
    go_wp2
    go_loop [8] (fun i => i = .int .i64 0) (fun _ => 0)
    case atStart => rfl
    case round =>
      obtain rfl := hrel
      go_wp2
      go_ret
      exact ⟨w.heap.size, rfl, H0.out, HB1.out⟩
end Go.Proofs.Ytchnfahgmceohaa
