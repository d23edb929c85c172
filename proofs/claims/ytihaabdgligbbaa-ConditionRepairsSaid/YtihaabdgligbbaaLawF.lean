/- The law ConditionRepairs returns true. -/
import Derived.Test.YtihaabdgligbbaaAwake
import Derived.Test.YtihaabdgligbbaaRepLaw
import Derived.Test.YtihaabdgligbbaaDueLaw
import Derived.StillTailTactics
import Derived.Deep.RegionHeld3
import Derived.BigRegion
import Derived.IntWalk
namespace Go.Proofs.Ytihaabdgligbbaa
open Go.RowKit
set_option linter.unusedVariables false

theorem rem_name {x : Int} {n : Nat} (hx : 0 ≤ x) (hn : 0 < n) : ∃ r : Nat, x % (n : Int) = (r : Int) ∧ r < n := by
  have a1 := Int.emod_nonneg x (show (n : Int) ≠ 0 by omega)
  have a2 := Int.emod_lt_of_pos x (show 0 < (n : Int) by omega)
  exact ⟨(x % (n : Int)).toNat, by omega, by omega⟩

set_option maxRecDepth 100000 in
set_option maxHeartbeats 1000000 in
theorem rep1_calls {A : Option Addr} {n c : Nat} {l : List Int} (f t m : Int) (w : World) (h : Ints w A n c l) (hs : stockB l = true) (hn : 2 ≤ n) (hf : 0 ≤ f ∧ f ≤ 4294967295) (ht : 0 ≤ t ∧ t ≤ 4294967295) (hm : 0 ≤ m ∧ m ≤ 4294967295) :
    ∃ r, Rep l r ∧ Calls Try.prog 37 #[.slice A n c, .int .u32 f, .int .u32 t, .int .u32 m] w (RetL r 0 w) := by
  have hcap := h.cap
  have hmax := h.max
  obtain ⟨f0, f1⟩ := hf
  obtain ⟨t0, t1⟩ := ht
  obtain ⟨m0, m1⟩ := hm
  have hn8 : n ≤ 8 := by have := (stockB_parts hs).2.1; rw [h.len] at this; omega
  obtain ⟨F, hF, hFl⟩ := rem_name (x := f) (n := n - 1) f0 (by omega)
  rw [show ((n - 1 : Nat) : Int) = (n : Int) - 1 by omega] at hF
  obtain ⟨T, hT, hTl⟩ := rem_name (x := t) (n := F + 1) t0 (by omega)
  rw [show ((F + 1 : Nat) : Int) = (F : Int) + 1 by omega] at hT
  obtain ⟨G, hG⟩ : ∃ G, F + 1 = G := ⟨_, rfl⟩
  have hin := (stockB_parts hs).2.2.1
  have hel := inB_el hin (show G < l.length by rw [h.len]; omega)
  obtain ⟨ad, hA, hl, hc⟩ := h.at_ (show G < n by omega)
  subst hA
  obtain ⟨x, hx⟩ : ∃ x : Nat, el l G = x := ⟨(el l G).toNat, by omega⟩
  obtain ⟨a, ha, hal⟩ := rem_name (x := m) (n := x + 1) m0 (by omega)
  rw [show ((x + 1 : Nat) : Int) = (x : Int) + 1 by omega] at ha
  refine ⟨repL l G T a, ⟨G, T, a, by rw [h.len]; omega, by omega, by omega, by omega, rfl⟩, ?_⟩
  have rp := fun W (I : Ints W (some ad) n c l) => Repair_calls ((2 : Int) + (F : Int)) ((1 : Int) + (T : Int)) (a : Int) W I
  unfold RepV at rp
  rw [hs, if_neg (by decide), show ((2 : Int) + (F : Int)).toNat - 1 = G by omega, show ((1 : Int) + (T : Int)).toNat - 1 = T by omega, h.len, if_pos (by omega)] at rp
  rw [hx] at hc hel
  have RP := Lib.hid rp
  have H := Lib.hid h
  have hz1 : (((n : Int) - 1) == 0) = false := by simp; omega
  have hz3 : (0 : Int) < (n : Int) - 1 := by omega
  have hz2 : 0 < n := by omega
  have hg2 : (2 : Int) + (F : Int) = (G : Int) + 1 := by omega
  have g1 : (G : Int) < n := by omega
  have g0 : (0 : Int) ≤ G := by omega
  have e1 : IntKind.i64.wrap ((2 : Int) + (F : Int) - 1) = (G : Int) := by rw [show (2 : Int) + (F : Int) - 1 = G by omega]; exact IntWalk.i64_in _ (by omega)
  clear rp h hs hin hx hg2
  go_enter Try.func37, Try.ntmps37
  go_wp2
  have h22 : (w.drew).cell? (ad.add G) = some (.int .i64 (x : Int)) := hc
  obtain ⟨X, hX⟩ : ∃ X : Nat, x + 1 = X := ⟨_, rfl⟩
  have e4 : IntKind.i64.wrap ((x : Int) + 1) = (X : Int) := by rw [show (x : Int) + 1 = X by omega]; exact IntWalk.i64_in _ (by omega)
  rw [show (x : Int) + 1 = (X : Int) by omega] at ha
  have e5 : IntKind.i64.wrap (1 + (T : Int)) = 1 + (T : Int) := IntWalk.i64_in _ (by omega)
  have e6 : t.tmod (G : Int) = (T : Int) := by rw [Int.tmod_eq_emod_of_nonneg t0, ← hT, show (G : Int) = (F : Int) + 1 by omega]
  have e7 : m.tmod (X : Int) = (a : Int) := by rw [Int.tmod_eq_emod_of_nonneg m0, ha]
  have e8 : ((G : Int) == 0) = false := by simp; omega
  have hX0 : 0 < X := by omega
  have e9 : ((X : Int) == 0) = false := by simp; omega
  have hG0 : 0 < G := by omega
  have hG1 : (0 : Int) < G := by omega
  have e10 : t % (G : Int) = (T : Int) := by rw [← hT, show (G : Int) = (F : Int) + 1 by omega]
  clear hX
  have ew1 : IntKind.i64.wrap t = t := IntWalk.i64_in _ (by omega)
  have ew2 : IntKind.i64.wrap m = m := IntWalk.i64_in _ (by omega)
  have hG9 : ¬ G = 0 := by omega
  have hX9 : ¬ X = 0 := by omega
  have RPD := Lib.hid (RP.out w.drew (H.out.drewN 1))
  have hkeep : ∀ w3, Below w.drew.heap.size w.drew w3 → w3.cell? (ad.add G) = some (.int .i64 (x : Int)) := fun w3 b => (b.cell (p := ad.add G) (by rw [block_of_add]; exact hl)).trans h22
  have HK := Lib.hid hkeep
  clear hkeep
  go_region_held3 (fun w' => w'.cell? (ad.add G) = some (.int .i64 (x : Int))) (first | go_keep | exact HK.out _ (by assumption)) ((go_at_call 33; (with_reducible refine RPD.out.mono ?_); rintro e w3 ⟨A3, n3, c3, rfl, i3, b3, f3⟩))
  all_goals (
    go_wp2
    go_returns
    exact ⟨_, _, _, rfl, i3, below_then (below_drewN (Below.refl _ _) 1) b3 (Nat.le_refl _), f3⟩)

/-- Block p holds eight values. -/
structure Eight (w : World) (p : Nat) (a0 a1 a2 a3 a4 a5 a6 a7 : Value) : Prop where
  c0 : w.cell? ⟨p, 0, none⟩ = some a0
  c1 : w.cell? ⟨p, 1, none⟩ = some a1
  c2 : w.cell? ⟨p, 2, none⟩ = some a2
  c3 : w.cell? ⟨p, 3, none⟩ = some a3
  c4 : w.cell? ⟨p, 4, none⟩ = some a4
  c5 : w.cell? ⟨p, 5, none⟩ = some a5
  c6 : w.cell? ⟨p, 6, none⟩ = some a6
  c7 : w.cell? ⟨p, 7, none⟩ = some a7
  lt : p < w.heap.size
theorem Eight.made (w : World) (a0 a1 a2 a3 a4 a5 a6 a7 : Value) (t : TypeId) : Eight (w.alloc (.cells #[a0, a1, a2, a3, a4, a5, a6, a7] t)) w.heap.size a0 a1 a2 a3 a4 a5 a6 a7 :=
  ⟨by rw [World.cell?_alloc_new]; rfl, by rw [World.cell?_alloc_new]; rfl, by rw [World.cell?_alloc_new]; rfl, by rw [World.cell?_alloc_new]; rfl, by rw [World.cell?_alloc_new]; rfl, by rw [World.cell?_alloc_new]; rfl, by rw [World.cell?_alloc_new]; rfl, by rw [World.cell?_alloc_new]; rfl, by simp⟩
theorem Eight.below {w w' : World} {p : Nat} {a0 a1 a2 a3 a4 a5 a6 a7 : Value} (h : Eight w p a0 a1 a2 a3 a4 a5 a6 a7) (hb : Below w.heap.size w w') : Eight w' p a0 a1 a2 a3 a4 a5 a6 a7 := by
  have k : ∀ i, w'.cell? ⟨p, i, none⟩ = w.cell? ⟨p, i, none⟩ := fun i => hb.cell (p := ⟨p, i, none⟩) h.lt
  exact ⟨(k 0).trans h.c0, (k 1).trans h.c1, (k 2).trans h.c2, (k 3).trans h.c3, (k 4).trans h.c4, (k 5).trans h.c5, (k 6).trans h.c6, (k 7).trans h.c7, Nat.lt_of_lt_of_le h.lt hb.size⟩
theorem Eight.alloc {w : World} {p : Nat} {a0 a1 a2 a3 a4 a5 a6 a7 : Value} (h : Eight w p a0 a1 a2 a3 a4 a5 a6 a7) (o : Obj) : Eight (w.alloc o) p a0 a1 a2 a3 a4 a5 a6 a7 := h.below ((Below.refl _ _).alloc (Nat.le_refl _) o)

set_option maxHeartbeats 1000000 in
theorem Repairs_out {A : Option Addr} {n c : Nat} {l : List Int} (f t m f2 t2 m2 : Int) (w : World) (h : Ints w A n c l) (hno : ¬ (stockB l = true ∧ 2 ≤ n)) :
    Calls Try.prog 8 #[.slice A n c, .int .u32 f, .int .u32 t, .int .u32 m, .int .u32 f2, .int .u32 t2, .int .u32 m2] w fun e w' => e = .returned (.bool true) ∧ Below w.heap.size w w' := by
  have hcap := h.cap
  have hmax := h.max
  have st := fun W (I : Ints W A n c l) => Stock_ref W I
  cases hs : stockB l
  · rw [hs] at st
    have H := Lib.hid h
    have ST := Lib.hid st
    clear h st hs hno
    go_enter Try.func8, Try.ntmps8
    go_wp2_with fail
    refine (awake_calls _).mono ?_
    rintro e w1 ⟨rfl, b1⟩
    have I1 := Lib.hid (H.out.below b1)
    have B1 := Lib.hid b1
    clear b1
    go_wp2_with fail
    refine (ST.out _ I1.out).mono ?_
    rintro e w2 ⟨rfl, rfl⟩
    go_wp2
    go_ret
    exact ⟨rfl, B1.out⟩
  · rw [hs] at st
    have hn : (n : Int) < 2 := by
      by_cases h2 : 2 ≤ n
      · exact absurd ⟨hs, h2⟩ hno
      · omega
    have H := Lib.hid h
    have ST := Lib.hid st
    clear h st hs hno
    go_enter Try.func8, Try.ntmps8
    go_wp2_with fail
    refine (awake_calls _).mono ?_
    rintro e w1 ⟨rfl, b1⟩
    have I1 := Lib.hid (H.out.below b1)
    have B1 := Lib.hid b1
    clear b1
    go_wp2_with fail
    refine (ST.out _ I1.out).mono ?_
    rintro e w2 ⟨rfl, rfl⟩
    go_wp2
    go_ret
    exact ⟨rfl, B1.out⟩

set_option maxHeartbeats 2000000 in
set_option maxRecDepth 100000 in
theorem Repairs_in {A : Option Addr} {n c : Nat} {l : List Int} (f t m f2 t2 m2 : Int) (w : World) (h : Ints w A n c l) (hs : stockB l = true) (hn : 2 ≤ n)
    (hf : 0 ≤ f ∧ f ≤ 4294967295) (ht : 0 ≤ t ∧ t ≤ 4294967295) (hm : 0 ≤ m ∧ m ≤ 4294967295) (hf2 : 0 ≤ f2 ∧ f2 ≤ 4294967295) (ht2 : 0 ≤ t2 ∧ t2 ≤ 4294967295) (hm2 : 0 ≤ m2 ∧ m2 ≤ 4294967295) :
    Calls Try.prog 8 #[.slice A n c, .int .u32 f, .int .u32 t, .int .u32 m, .int .u32 f2, .int .u32 t2, .int .u32 m2] w fun e w' => e = .returned (.bool true) ∧ Below w.heap.size w w' := by
  have hcap := h.cap
  have hmax := h.max
  have hl8 := (stockB_parts hs).2.1
  have st := fun W (I : Ints W A n c l) => Stock_ref W I
  rw [hs] at st
  have H := Lib.hid h
  have HL := Lib.hid h.len
  have HS := Lib.hid hs
  have ST := Lib.hid st
  have hn2 : ¬ (n : Int) < 2 := by omega
  have hn0 : 0 < n := by omega
  have HF := Lib.hid (And.intro hf (And.intro ht (And.intro hm (And.intro hf2 (And.intro ht2 hm2)))))
  clear h st hs hl8 hf ht hm hf2 ht2 hm2
  go_enter Try.func8, Try.ntmps8
  go_wp2_with fail
  refine (awake_calls _).mono ?_
  rintro e w1 ⟨rfl, b1⟩
  have I1 := Lib.hid (H.out.below b1)
  have B1 := Lib.hid b1
  clear b1
  go_wp2_with fail
  refine (ST.out _ I1.out).mono ?_
  rintro e w2 ⟨rfl, rfl⟩
  obtain ⟨ra, hra, ca⟩ := rep1_calls f t m w1 I1.out HS.out hn HF.out.1 HF.out.2.1 HF.out.2.2.1
  have wa := hra.wor HS.out
  have CA := Lib.hid ca
  have WA := Lib.hid wa
  clear hra ca wa
  go_wp2_with fail
  refine (CA.out).mono ?_
  rintro e w3 ⟨A3, n3, c3, rfl, i3, b3, -⟩
  obtain rfl : n3 = n := by rw [← i3.len, ← WA.out.len, HL.out]
  have hc3 := i3.cap
  have hm3 := i3.max
  have hne : ((n3 : Int) != (n3 : Int)) = false := by simp
  have sa := Stock_ref w3 i3
  rw [WA.out.sb] at sa
  have SA := Lib.hid sa
  have I3 := Lib.hid (I1.out.below b3)
  have J3 := Lib.hid i3
  have B3 := Lib.hid (below_then B1.out b3 B1.out.size)
  obtain ⟨rb, hrb, cb⟩ := rep1_calls f2 t2 m2 w3 i3 WA.out.sb hn HF.out.2.2.2.1 HF.out.2.2.2.2.1 HF.out.2.2.2.2.2
  have wb := hrb.wor WA.out.sb
  have CB := Lib.hid cb
  have WB := Lib.hid wb
  clear hrb cb wb sa i3 b3
  go_wp2_with fail
  refine (SA.out).mono ?_
  rintro e w4 ⟨rfl, rfl⟩
  go_wp2_with fail
  refine (CB.out).mono ?_
  rintro e w5 ⟨A5, n5, c5, rfl, i5, b5, -⟩
  obtain rfl : n5 = n3 := by rw [← i5.len, ← WB.out.len, ← WA.out.len, HL.out]
  have hc5 := i5.cap
  have hm5 := i5.max
  have I5 := Lib.hid (I3.out.below b5)
  have J5 := Lib.hid (J3.out.below b5)
  have K5 := Lib.hid i5
  have B5 := Lib.hid (below_then B3.out b5 B3.out.size)
  have t1 := tail_calls 0 w5 K5.out hn0 (fits_drop (stockB_parts WB.out.sb).2.2.1 (by rw [← WB.out.len, ← WA.out.len, HL.out]; have := (stockB_parts HS.out).2.1; rw [HL.out] at this; omega) 0)
  have t2 := tail_calls 0 w5 I5.out hn0 (fits_drop (stockB_parts HS.out).2.2.1 (by rw [HL.out]; have := (stockB_parts HS.out).2.1; rw [HL.out] at this; omega) 0)
  have ts : tlS rb 0 = tlS l 0 := by show sumL rb = sumL l; rw [WA.out.sum, WB.out.sum]
  rw [ts] at t1
  generalize tlS l 0 = x at *
  have hx : ((x : Int) != x) = false := by simp
  have T1 := Lib.hid t1
  have T2 := Lib.hid t2
  clear t1 t2 ts i5 b5
  go_wp2_with fail
  refine (T1.out).mono ?_
  rintro e w6 ⟨rfl, rfl⟩
  go_wp2_with fail
  refine (T2.out).mono ?_
  rintro e w6 ⟨rfl, rfl⟩
  have O8 := Lib.hid (Eight.made w5 (.slice A n5 c) (.slice A n5 c) (.slice A n5 c) (.slice A3 n5 c3) (.slice A3 n5 c3) (.slice A5 n5 c5) (.slice A n5 c) (.slice A5 n5 c5) 67)
  have BB5 := Lib.hid ((Below.refl w5.heap.size w5).alloc (Nat.le_refl _) (.cells #[.slice A n5 c, .slice A n5 c, .slice A n5 c, .slice A3 n5 c3, .slice A3 n5 c3, .slice A5 n5 c5, .slice A n5 c, .slice A5 n5 c5] 67))
  have v1 := Lib.hid (Wor.refl HS.out).val
  have v2 := Lib.hid WA.out.val
  have v3 := Lib.hid WB.out.val
  have v4 := Lib.hid (WA.out.trans WB.out).val
  clear hx
  go_wp2
  go_loopw [96] (fun i wr => ∃ z : Int, (z = 0 ∨ z = 1 ∨ z = 2 ∨ z = 3 ∨ z = 4) ∧ i = .int .i64 z ∧ Eight wr w5.heap.size (.slice A n5 c) (.slice A n5 c) (.slice A n5 c) (.slice A3 n5 c3) (.slice A3 n5 c3) (.slice A5 n5 c5) (.slice A n5 c) (.slice A5 n5 c5) ∧ Below w5.heap.size w5 wr) (fun i _ => 4 - (intOf i).toNat)
  case atStart => exact ⟨0, by omega, rfl, O8.out, BB5.out⟩
  case round =>
    obtain ⟨z, hz, rfl, ho, hb⟩ := hrel
    generalize wr = wo at *
    have HO := Lib.hid ho
    have HB := Lib.hid hb
    obtain ⟨o0, o1, o2, o3, o4, o5, o6, o7, ol⟩ := ho
    have I := Lib.hid (I5.out.below hb)
    have J := Lib.hid (J5.out.below hb)
    have K := Lib.hid (K5.out.below hb)
    clear hb
    rcases hz with rfl | rfl | rfl | rfl | rfl
    · have wc := Worse_calls (wo.alloc (.cells #[.slice A n5 c, .slice A n5 c] 67)) (I.out.alloc _) (I.out.alloc _)
      rw [v1.out] at wc
      have WC := Lib.hid wc
      clear wc
      go_wp2_with fail
      refine (WC.out).mono ?_
      rintro e w7 ⟨rfl, b7⟩
      have HO7 := Lib.hid ((HO.out.alloc _).below b7)
      have HB7 := Lib.hid (bel_alloc HB.out b7 HB.out.size)
      clear b7
      go_wp2
      go_roundw
      case rel => exact ⟨1, by omega, rfl, HO7.out, HB7.out⟩
      case measure => simp [intOf]
    · have wc := Worse_calls (wo.alloc (.cells #[.slice A n5 c, .slice A3 n5 c3] 67)) (I.out.alloc _) (J.out.alloc _)
      rw [v2.out] at wc
      have WC := Lib.hid wc
      clear wc
      go_wp2_with fail
      refine (WC.out).mono ?_
      rintro e w7 ⟨rfl, b7⟩
      have HO7 := Lib.hid ((HO.out.alloc _).below b7)
      have HB7 := Lib.hid (bel_alloc HB.out b7 HB.out.size)
      clear b7
      go_wp2
      go_roundw
      case rel => exact ⟨2, by omega, rfl, HO7.out, HB7.out⟩
      case measure => simp [intOf]
    · have wc := Worse_calls (wo.alloc (.cells #[.slice A3 n5 c3, .slice A5 n5 c5] 67)) (J.out.alloc _) (K.out.alloc _)
      rw [v3.out] at wc
      have WC := Lib.hid wc
      clear wc
      go_wp2_with fail
      refine (WC.out).mono ?_
      rintro e w7 ⟨rfl, b7⟩
      have HO7 := Lib.hid ((HO.out.alloc _).below b7)
      have HB7 := Lib.hid (bel_alloc HB.out b7 HB.out.size)
      clear b7
      go_wp2
      go_roundw
      case rel => exact ⟨3, by omega, rfl, HO7.out, HB7.out⟩
      case measure => simp [intOf]
    · have wc := Worse_calls (wo.alloc (.cells #[.slice A n5 c, .slice A5 n5 c5] 67)) (I.out.alloc _) (K.out.alloc _)
      rw [v4.out] at wc
      have WC := Lib.hid wc
      clear wc
      go_wp2_with fail
      refine (WC.out).mono ?_
      rintro e w7 ⟨rfl, b7⟩
      have HO7 := Lib.hid ((HO.out.alloc _).below b7)
      have HB7 := Lib.hid (bel_alloc HB.out b7 HB.out.size)
      clear b7
      go_wp2
      go_roundw
      case rel => exact ⟨4, by omega, rfl, HO7.out, HB7.out⟩
      case measure => simp [intOf]
    · go_wp2
      go_ret
      exact ⟨rfl, B5.out.trans (HB.out.mono B5.out.size)⟩

theorem Repairs_calls {A : Option Addr} {n c : Nat} {l : List Int} (f t m f2 t2 m2 : Int) (w : World) (h : Ints w A n c l)
    (hf : 0 ≤ f ∧ f ≤ 4294967295) (ht : 0 ≤ t ∧ t ≤ 4294967295) (hm : 0 ≤ m ∧ m ≤ 4294967295) (hf2 : 0 ≤ f2 ∧ f2 ≤ 4294967295) (ht2 : 0 ≤ t2 ∧ t2 ≤ 4294967295) (hm2 : 0 ≤ m2 ∧ m2 ≤ 4294967295) :
    Calls Try.prog 8 #[.slice A n c, .int .u32 f, .int .u32 t, .int .u32 m, .int .u32 f2, .int .u32 t2, .int .u32 m2] w fun e w' => e = .returned (.bool true) ∧ Below w.heap.size w w' := by
  by_cases g : stockB l = true ∧ 2 ≤ n
  · exact Repairs_in f t m f2 t2 m2 w h g.1 g.2 hf ht hm hf2 ht2 hm2
  · exact Repairs_out f t m f2 t2 m2 w h g
end Go.Proofs.Ytihaabdgligbbaa
