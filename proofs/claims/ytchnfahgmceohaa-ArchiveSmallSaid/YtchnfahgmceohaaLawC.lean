/- The law ArchiveSmall returns true. -/
import Derived.Test.YtchnfahgmceohaaAwake
import Derived.Test.YtchnfahgmceohaaSmall1
import Derived.Test.YtchnfahgmceohaaRep
import Derived.Test.YtchnfahgmceohaaClone
import Derived.Test.YtchnfahgmceohaaUnp3
import Derived.Test.YtchnfahgmceohaaSlices
namespace Go.Proofs.Ytchnfahgmceohaa
open Go.RowKit
set_option linter.unusedVariables false

theorem OwnB.below_ {w : World} {B n c : Nat} {A : Option Addr} {zs : List Int} (h : OwnB w B (.slice A n c) zs) : ∀ ad, A = some ad → ad.block < w.heap.size := fun ad e => (h.row.lt ad.block (by subst e; rfl)).2

set_option maxRecDepth 100000 in
set_option maxHeartbeats 4000000 in
theorem Small_calls {A A' : Option Addr} {n c n' c' : Nat} {l bs : List Int} (N V : Int) (w : World) (h : Ints w A n c l) (h' : Byts w A' n' c' bs) (hN : 0 ≤ N ∧ N ≤ 65535) (hV : -2147483648 ≤ V ∧ V ≤ 2147483647) :
    Calls Try.prog 5 #[.slice A n c, .slice A' n' c', .int .u16 N, .int .i32 V] w fun e w' => e = .returned (.bool true) ∧ Below w.heap.size w w' := by
  have cf := fun W (I : Ints W A n c l) => containsFunc_big W I
  have hcap := h.cap
  have hmax := h.max
  have hcap' := h'.cap
  have hmax' := h'.max
  have hlen := h.len
  have hlen' := h'.len
  have H := Lib.hid h
  have H' := Lib.hid h'
  by_cases h4 : 200 < (n : Int)
  · clear h h' cf hlen hlen'
    go_enter Try.func5, Try.ntmps5
    go_wp2_with fail
    refine (awake_calls _).mono ?_
    rintro e w1 ⟨rfl, b1⟩
    have B1 := Lib.hid b1
    clear b1
    go_wp2
    go_ret
    exact ⟨rfl, B1.out⟩
  · by_cases h5 : 1000 < (n' : Int)
    · clear h h' cf hlen hlen'
      go_enter Try.func5, Try.ntmps5
      go_wp2_with fail
      refine (awake_calls _).mono ?_
      rintro e w1 ⟨rfl, b1⟩
      have B1 := Lib.hid b1
      clear b1
      go_wp2
      go_ret
      exact ⟨rfl, B1.out⟩
    · cases hq : l.any bigP
      · rw [hq] at cf
        have hp := inP_of hq
        have p1 := fun W (I : Ints W A n c l) => Pack_calls W I hp (by omega)
        have h7 := pack_len7 hp (by omega)
        have hun := unp_all hp (by omega) bs
        have hvr : inP (List.replicate (N % 10001).toNat V) := fun z hz => by rw [List.eq_of_mem_replicate hz]; omega
        have h8 := pack_same8 (m := (N % 10001).toNat) (v := V) (by omega) hV
        have hun2 := unp_all hvr (by rw [List.length_replicate]; omega) []
        rw [List.length_replicate, List.append_nil] at hun2
        rw [hlen] at hun h7
        obtain ⟨m, hm⟩ : ∃ m, (N % 10001).toNat = m := ⟨_, rfl⟩
        rw [hm] at hvr h8 hun2
        have hm1 : N % 10001 = (m : Int) := by omega
        have hm2 : (m : Int) ≤ 10000 := by omega
        have p2 := fun W A c (I : Ints W A m c (List.replicate m V)) => Pack_calls W I hvr hm2
        obtain ⟨N2, hN2⟩ : ∃ N2, (packL l).length = N2 := ⟨_, rfl⟩
        obtain ⟨N3, hN3⟩ : ∃ N3, (packL (List.replicate m V)).length = N3 := ⟨_, rfl⟩
        rw [hN2] at h7
        rw [hN3] at h8
        generalize packL l = bl at *
        generalize packL (List.replicate m V) = br at *
        obtain ⟨M7, hM7⟩ : ∃ M7, 7 * n = M7 := ⟨_, rfl⟩
        have k7 : (7 : Int) * (n : Int) = (M7 : Int) := by omega
        have k8 : (M7 : Int) ≤ 1400 := by omega
        have k9 : (N2 : Int) ≤ (M7 : Int) := by omega
        have k10 : (N3 : Int) ≤ 8 := by omega
        have CF := Lib.hid cf
        have P1 := Lib.hid p1
        have P2 := Lib.hid p2
        have UN := Lib.hid hun
        have UN2 := Lib.hid hun2
        have HN2 := Lib.hid hN2
        have HN3 := Lib.hid hN3
        have HL := Lib.hid hlen
        have HL' := Lib.hid hlen'
        obtain ⟨hV0, hV1⟩ := hV
        obtain ⟨hN0, hN1⟩ := hN
        clear h h' cf hlen hlen' hq hp p1 p2 hun hun2 hvr hm hN2 hN3 hM7
        go_enter Try.func5, Try.ntmps5
        go_wp2_with fail
        refine (awake_calls _).mono ?_
        rintro e w1 ⟨rfl, b1⟩
        have I1 := Lib.hid (H.out.below b1)
        have J1 := Lib.hid (H'.out.below b1)
        have B1 := Lib.hid b1
        clear b1
        go_wp2_with fail
        refine (CF.out _ I1.out).mono ?_
        rintro e w2 ⟨rfl, rfl⟩
        go_wp2_with fail
        refine (P1.out _ I1.out).mono ?_
        rintro e w3 ⟨v3, rfl, o3, b3⟩
        obtain ⟨A3, n3, c3, rfl, y3, -⟩ := o3.ints
        have hn3 := y3.len
        rw [HN2.out] at hn3
        subst hn3
        have hc3 := y3.cap
        have hx3 := y3.max
        have I3 := Lib.hid (I1.out.below b3)
        have J3 := Lib.hid (J1.out.below b3)
        have B3 := Lib.hid (below_then B1.out b3 B1.out.size)
        have Y3 := Lib.hid y3
        clear b3 o3 y3
        have CL := Lib.hid (clone_calls w3 Y3.out (by omega))
        go_wp2_with fail
        refine (CL.out).mono ?_
        rintro e w4 ⟨v4, rfl, o4, b4⟩
        have O4 := Lib.hid o4
        have I4 := Lib.hid (I3.out.below b4)
        have J4 := Lib.hid (J3.out.below b4)
        have Y4 := Lib.hid (Y3.out.below b4)
        have B4 := Lib.hid (below_then B3.out b4 B3.out.size)
        have z4 := b4.size
        have K4 := Lib.hid b4
        clear b4 o4
        obtain ⟨A4, c4, hv4⟩ := O4.out.slice
        subst hv4
        go_wp2_with (at_builtin; refine wpList_append_bytes w4 w3.heap.size _ bl A' n' c' bs rfl _ _ rfl rfl rfl O4.out (by omega) J4.out (by have := HN2.out; have := HL'.out; omega) ?_)
        intro v5 w5 o5 b5
        have hl5 : (bl ++ bs).length = N2 + n' := by rw [List.length_append, HN2.out, HL'.out]
        obtain ⟨A5, c5, hv5⟩ := o5.slice
        rw [hl5] at hv5
        obtain ⟨N5, hN5⟩ : ∃ N5, N2 + n' = N5 := ⟨_, rfl⟩
        rw [hN5] at hv5 hl5
        subst hv5
        have ha5 := o5.below_
        obtain ⟨A6, n6, c6, e6, y6, -⟩ := o5.ints
        injection e6 with e61 e62 e63
        subst e61 e62 e63
        have hN5' : (N5 : Int) ≤ 2400 := by omega
        have uc := Unpack_calls w5 y6 ha5 n (by omega) l bs UN.out (by have := HL'.out; omega)
        have ek : ((N5 : Nat) : Int) - (bs.length : Int) = (N2 : Int) := by have := HL'.out; omega
        rw [ek] at uc
        have UC := Lib.hid uc
        have I5 := Lib.hid (I3.out.below (K4.out.trans b5))
        have B5 := Lib.hid (below_then B3.out (K4.out.trans b5) B3.out.size)
        clear uc ek ha5 o5 b5 y6 O4 hl5 hN5
        go_wp2_with fail
        refine (UC.out).mono ?_
        rintro e w6 ⟨A7, n7, c7, rfl, i7, b7⟩
        have eq := equal_calls w6 i7 (I5.out.below b7)
        rw [decide_eq_true rfl] at eq
        have EQ := Lib.hid eq
        have B6 := Lib.hid (below_then B5.out b7 B5.out.size)
        have hlen7 := i7.len
        clear eq b7 i7
        have hk2 : ((N2 : Int) != (N2 : Int)) = false := by simp
        go_wp2_with fail
        refine (EQ.out).mono ?_
        rintro e w7 ⟨rfl, b8⟩
        have B7 := Lib.hid (below_then B6.out b8 B6.out.size)
        clear b8
        have il : Ints (w7.alloc (.cells #[.int .i64 V] 3)) (some ⟨w7.heap.size, 0, none⟩) 1 1 [V] := Ints.lit w7 [V] (by simp) (fun z hz => by rw [List.mem_singleton] at hz; rw [hz]; omega)
        have rc := repeat_calls m _ il (by omega)
        have ba : Below w7.heap.size w7 (w7.alloc (.cells #[.int .i64 V] 3)) := (Below.refl _ _).alloc (Nat.le_refl _) _
        have B7' := Lib.hid (below_then B7.out ba B7.out.size)
        have RC := Lib.hid rc
        clear il rc ba
        go_wp2_with fail
        refine (RC.out).mono ?_
        rintro e w8 ⟨g8, rfl, i8, b8⟩
        have I8 := Lib.hid i8
        have B8 := Lib.hid (below_then B7'.out b8 B7'.out.size)
        clear i8 b8
        go_wp2_with fail
        refine (P2.out _ _ _ I8.out).mono ?_
        rintro e w9 ⟨v9, rfl, o9, b9⟩
        obtain ⟨A9, c9, hv9⟩ := o9.slice
        rw [HN3.out] at hv9
        subst hv9
        have ha9 := o9.below_
        obtain ⟨A10, n10, c10, e10, y9, -⟩ := o9.ints
        injection e10 with e61 e62 e63
        subst e61 e62 e63
        have uc := Unpack_calls w9 y9 ha9 m (by omega) _ [] UN2.out (by simp)
        have ek : ((N3 : Nat) : Int) - (([] : List Int).length : Int) = (N3 : Int) := by simp
        rw [ek] at uc
        have UC9 := Lib.hid uc
        have hc9 := y9.cap
        have hx9 := y9.max
        have B9 := Lib.hid (below_then B8.out b9 B8.out.size)
        clear uc ek ha9 o9 b9 y9
        go_wp2_with fail
        refine (UC9.out).mono ?_
        rintro e w10 ⟨A11, n11, c11, rfl, i11, b11⟩
        obtain rfl : n11 = m := by rw [← i11.len, List.length_replicate]
        have B10 := Lib.hid (below_then B9.out b11 B9.out.size)
        have I11 := Lib.hid i11
        have hc11 := i11.cap
        have hx11 := i11.max
        clear b11 i11
        by_cases hm0 : n11 = 0
        · have hm3 : ((n11 : Int) == 0) = true := by simp [hm0]
          clear hm0
          go_wp2
          go_ret
          exact ⟨rfl, B10.out⟩
        · have hm3 : ((n11 : Int) == 0) = false := by simp [hm0]
          obtain ⟨ad, rfl, hl, q0⟩ := I11.out.at_ (show 0 < n11 by omega)
          obtain ⟨ad', e', -, q1⟩ := I11.out.at_ (show n11 - 1 < n11 by omega)
          injection e' with e'
          subst e'
          have er : ∀ j, j < n11 → el (List.replicate n11 V) j = V := fun j hj => by unfold el; rw [List.getD_eq_getElem?_getD, List.getElem?_replicate, if_pos hj]; rfl
          rw [er _ (by omega)] at q0 q1
          obtain ⟨M, hM⟩ : ∃ M, n11 - 1 = M := ⟨_, rfl⟩
          rw [hM] at q1
          have r1 : (n11 : Int) - 1 = (M : Int) := by omega
          have r2 : (M : Int) < (n11 : Int) := by omega
          have r3 : 0 < n11 := by omega
          have e0 : ad.add 0 = ad := by unfold Addr.add; split <;> simp_all
          have q0' := q0
          rw [e0] at q0'
          have r4 : (0 : Int) < (n11 : Int) := by omega
          clear er hM hm0 e0
          go_wp2
          go_ret
          exact ⟨rfl, B10.out⟩
      · rw [hq] at cf
        have CF := Lib.hid cf
        clear h h' cf hlen hlen' hq
        go_enter Try.func5, Try.ntmps5
        go_wp2_with fail
        refine (awake_calls _).mono ?_
        rintro e w1 ⟨rfl, b1⟩
        have I1 := Lib.hid (H.out.below b1)
        have B1 := Lib.hid b1
        clear b1
        go_wp2_with fail
        refine (CF.out _ I1.out).mono ?_
        rintro e w2 ⟨rfl, rfl⟩
        go_wp2
        go_ret
        exact ⟨rfl, B1.out⟩
end Go.Proofs.Ytchnfahgmceohaa
