/- The law OpeningsPoints returns true. -/
import Derived.Test.YtfalmbcnbomaoaaWH
import Derived.Test.YtfalmbcnbomaoaaPtPick
import Derived.Deep.RegionHeld3
import Derived.Deep.DeepCutAuto
namespace Go.Proofs.Ytfalmbcnbomaoaa
open Go.Proofs.Ytfalmbcnbomaoaa.DivLaw Go.Proofs.Ytfalmbcnbomaoaa.Open Go.RowKit
set_option linter.unusedVariables false

theorem AtS.far {W : World} {g : Nat} {lo hi : Int} (h : AtS W g lo hi) {p : Addr} (hp : p.block ≠ g) (u : Value) : AtS (W.setCell p u) g lo hi :=
  ⟨by rw [World.cell?_setCell_other W _ _ _ (by intro e; exact hp (by rw [e]))]; exact h.c0, by rw [World.cell?_setCell_other W _ _ _ (by intro e; exact hp (by rw [e]))]; exact h.c1, fun j => by rw [World.frozen?_setCell]; exact h.z j, by simp [World.setCell]; exact h.lt⟩
theorem AtL.far {w : World} {g : Nat} {n0 n1 n2 sc : ByteArray} {kd ln up dn wd ht : Int} {ca : Option Addr} {cn cc : Nat} (h : AtL w g n0 n1 n2 sc kd ln up dn wd ht ca cn cc) {p : Addr} (hp : p.block ≠ g) (u : Value) : AtL (w.setCell p u) g n0 n1 n2 sc kd ln up dn wd ht ca cn cc := by
  have k : ∀ i v, w.cell? ⟨g, i, none⟩ = some v → (w.setCell p u).cell? ⟨g, i, none⟩ = some v := fun i v hv => by rw [World.cell?_setCell_other w _ _ _ (by intro e; exact hp (by rw [e]))]; exact hv
  exact ⟨k _ _ h.c0, k _ _ h.c1, k _ _ h.c2, k _ _ h.c3, k _ _ h.c4, k _ _ h.c5, k _ _ h.c6, k _ _ h.c7, k _ _ h.c8, k _ _ h.c9, k _ _ h.c10, by simp [World.setCell]; exact h.lt⟩
theorem Box5.far {W : World} {g : Nat} {h0 h1 s0 s1 u0 u1 d0 d1 : Int} {n0 n1 n2 sc : ByteArray} {kd ln up dn wd ht : Int} {ca : Option Addr} {cn cc : Nat} (h : Box5 W g h0 h1 s0 s1 u0 u1 d0 d1 n0 n1 n2 sc kd ln up dn wd ht ca cn cc) {p : Addr} (hp : g + 4 < p.block) (u : Value) : Box5 (W.setCell p u) g h0 h1 s0 s1 u0 u1 d0 d1 n0 n1 n2 sc kd ln up dn wd ht ca cn cc :=
  ⟨h.l.far (by omega) u, h.h.far (by omega) u, h.s.far (by omega) u, h.u.far (by omega) u, h.d.far (by omega) u⟩
theorem AtS.put {W : World} {g : Nat} {lo hi : Int} (h : AtS W g lo hi) (a b : Int) : AtS ((W.setCell ⟨g, 0, none⟩ (.int .i64 a)).setCell ⟨g, 1, none⟩ (.int .i64 b)) g a b := by
  have k0 : (W.setCell ⟨g, 0, none⟩ (.int .i64 a)).cell? ⟨g, 0, none⟩ = some (.int .i64 a) := World.cell?_setCell_same W _ _ h.c0
  have k1 : (W.setCell ⟨g, 0, none⟩ (.int .i64 a)).cell? ⟨g, 1, none⟩ = some (.int .i64 hi) := by rw [World.cell?_setCell_other W _ _ _ (by simp)]; exact h.c1
  refine ⟨?_, World.cell?_setCell_same _ _ _ k1, fun j => ?_, by simp [World.setCell]; exact h.lt⟩
  · rw [World.cell?_setCell_other _ _ _ _ (by simp)]; exact k0
  · rw [World.frozen?_setCell, World.frozen?_setCell]; exact h.z j

/-- What the law keeps: its boxes, the span's block, what was there. -/
structure Gd (w W : World) (p : Nat) (a b : Int) (h0 h1 s0 s1 u0 u1 d0 d1 : Int) (n0 n1 n2 sc : ByteArray) (kd ln up dn wd ht : Int) (ca : Option Addr) (cn cc : Nat) : Prop where
  box : Box5 W w.heap.size h0 h1 s0 s1 u0 u1 d0 d1 n0 n1 n2 sc kd ln up dn wd ht ca cn cc
  at_ : AtS W p a b
  bel : Below w.heap.size w W
theorem Gd.below {w W W' : World} {p : Nat} {a b : Int} {h0 h1 s0 s1 u0 u1 d0 d1 : Int} {n0 n1 n2 sc : ByteArray} {kd ln up dn wd ht : Int} {ca : Option Addr} {cn cc : Nat} (h : Gd w W p a b h0 h1 s0 s1 u0 u1 d0 d1 n0 n1 n2 sc kd ln up dn wd ht ca cn cc) (hb : Below W.heap.size W W') : Gd w W' p a b h0 h1 s0 s1 u0 u1 d0 d1 n0 n1 n2 sc kd ln up dn wd ht ca cn cc :=
  ⟨h.box.below hb, h.at_.below hb, h.bel.trans (hb.mono h.bel.size)⟩
theorem Gd.cells {w W : World} {p : Nat} {a b : Int} {h0 h1 s0 s1 u0 u1 d0 d1 : Int} {n0 n1 n2 sc : ByteArray} {kd ln up dn wd ht : Int} {ca : Option Addr} {cn cc : Nat} (h : Gd w W p a b h0 h1 s0 s1 u0 u1 d0 d1 n0 n1 n2 sc kd ln up dn wd ht ca cn cc) : W.cell? ⟨w.heap.size, 0, none⟩ = some (.string n0) ∧ W.cell? ⟨w.heap.size, 1, none⟩ = some (.string n1) ∧ W.cell? ⟨w.heap.size, 2, none⟩ = some (.string n2) ∧ W.cell? ⟨w.heap.size, 3, none⟩ = some (.int .i64 kd) ∧ W.cell? ⟨w.heap.size, 4, none⟩ = some (.int .i64 ln) ∧ W.cell? ⟨w.heap.size, 5, none⟩ = some (.int .i64 up) ∧ W.cell? ⟨w.heap.size, 6, none⟩ = some (.int .i64 dn) ∧ W.cell? ⟨w.heap.size, 7, none⟩ = some (.string sc) ∧ W.cell? ⟨w.heap.size, 8, none⟩ = some (.int .i64 wd) ∧ W.cell? ⟨w.heap.size, 9, none⟩ = some (.int .i64 ht) ∧ W.cell? ⟨w.heap.size, 10, none⟩ = some (.slice ca cn cc) ∧ W.cell? ⟨w.heap.size + 1 + 1, 0, none⟩ = some (.int .i64 s0) ∧ W.cell? ⟨w.heap.size + 1 + 1, 1, none⟩ = some (.int .i64 s1) ∧ W.cell? ⟨w.heap.size + 1 + 1 + 1, 0, none⟩ = some (.int .i64 u0) ∧ W.cell? ⟨w.heap.size + 1 + 1 + 1, 1, none⟩ = some (.int .i64 u1) ∧ W.cell? ⟨w.heap.size + 1 + 1 + 1 + 1, 0, none⟩ = some (.int .i64 d0) ∧ W.cell? ⟨w.heap.size + 1 + 1 + 1 + 1, 1, none⟩ = some (.int .i64 d1) :=
  ⟨h.box.l.c0, h.box.l.c1, h.box.l.c2, h.box.l.c3, h.box.l.c4, h.box.l.c5, h.box.l.c6, h.box.l.c7, h.box.l.c8, h.box.l.c9, h.box.l.c10, h.box.s.c0, h.box.s.c1, h.box.u.c0, h.box.u.c1, h.box.d.c0, h.box.d.c1⟩
theorem Gd.drew {w W : World} {p : Nat} {a b : Int} {h0 h1 s0 s1 u0 u1 d0 d1 : Int} {n0 n1 n2 sc : ByteArray} {kd ln up dn wd ht : Int} {ca : Option Addr} {cn cc : Nat} (h : Gd w W p a b h0 h1 s0 s1 u0 u1 d0 d1 n0 n1 n2 sc kd ln up dn wd ht ca cn cc) : Gd w W.drew p a b h0 h1 s0 s1 u0 u1 d0 d1 n0 n1 n2 sc kd ln up dn wd ht ca cn cc := h.below (bel_drewN (Below.refl _ _) 1)

set_option maxRecDepth 100000 in
set_option maxHeartbeats 16000000 in
theorem Points_in (n0 n1 n2 sc : ByteArray) (kd ln up dn wd ht : Int) (ca : Option Addr) (cn cc : Nat) (wb h0 h1 s0 s1 u0 u1 d0 d1 i j k : Int) (vh : validB h0 h1 = true) (vs : validB s0 s1 = true) (vu : validB u0 u1 = true) (vd : validB d0 d1 = true)
    (hi : 0 ≤ i ∧ i ≤ 4294967295) (hj : 0 ≤ j ∧ j ≤ 4294967295) (hk : 0 ≤ k ∧ k ≤ 4294967295) (w : World) :
    Calls Try.prog 10 #[.agg #[.string n0, .string n1, .string n2, .int .i64 kd, .int .i64 ln, .int .i64 up, .int .i64 dn, .string sc, .int .i64 wd, .int .i64 ht, .slice ca cn cc], .int .i64 wb, .agg #[.int .i64 h0, .int .i64 h1], .agg #[.int .i64 s0, .int .i64 s1], .agg #[.int .i64 u0, .int .i64 u1], .agg #[.int .i64 d0, .int .i64 d1], .int .u32 i, .int .u32 j, .int .u32 k] w fun e w' => e = .returned (.bool true) ∧ Below w.heap.size w w' := by
  have c1 := fun W => WeirSpan_calls wb h0 h1 W
  have c3 := fun W => GateSpan_calls n0 n1 n2 sc kd ln up dn wd ht ca cn cc s0 s1 u0 u1 d0 d1 W
  have c5 := fun W => OverSpan_calls n0 n1 n2 sc kd ln up dn wd ht ca cn cc u0 u1 d0 d1 W
  have qh := pickV_in (n := i) (validB_parts vh).1
  have qs := pickV_in (n := k) (validB_parts vs).1
  have qu := pickV_in (n := i) (validB_parts vu).1
  have qd := pickV_in (n := j) (validB_parts vd).1
  have m1 := weir_mid wb h0 h1 _ qh.1 qh.2
  have m2 := over_mid kd up wd u0 u1 d0 d1 _ _ (validB u0 u1 && (validB d0 d1)) qu.1 qu.2 qd.1 qd.2
  have m3 := gate_mid kd up wd ht s0 s1 u0 u1 d0 d1 _ _ _ (validB s0 s1 && (validB u0 u1 && validB d0 d1)) qs.1 qs.2 qu.1 qu.2 qd.1 qd.2
  have k1 := fun W => pick_calls h0 h1 i vh hi W
  have k2 := fun W => pick_calls u0 u1 i vu hi W
  have k3 := fun W => pick_calls d0 d1 j vd hj W
  have k4 := fun W => pick_calls s0 s1 k vs hk W
  have l1 := fun W => Valid_ref h0 h1 W
  have l2 := fun W => Valid_ref s0 s1 W
  have l3 := fun W => Valid_ref u0 u1 W
  have l4 := fun W => Valid_ref d0 d1 W
  rw [vh] at l1
  rw [vs] at l2
  rw [vu] at l3
  rw [vd] at l4
  have f1 := fun W => Weir_calls wb (pickV h0 h1 i) W
  have f2 := fun W => Over_calls n0 n1 n2 sc kd ln up dn wd ht ca cn cc (pickV u0 u1 i) (pickV d0 d1 j) W
  have f3 := fun W => Gate_calls n0 n1 n2 sc kd ln up dn wd ht ca cn cc (pickV s0 s1 k) (pickV u0 u1 i) (pickV d0 d1 j) W
  generalize SpanOf (validB h0 h1) _ _ = X at *
  generalize SpanOf (isWeirB kd up wd && _) _ _ = Y at *
  generalize SpanOf (isGateB kd up wd ht && _) _ _ = Z at *
  generalize WeirV wb (pickV h0 h1 i) = P at *
  generalize OverV kd up wd (pickV u0 u1 i) (pickV d0 d1 j) = Q at *
  generalize GateV kd up wd ht (pickV s0 s1 k) (pickV u0 u1 i) (pickV d0 d1 j) = R at *
  generalize pickV h0 h1 i = ph at *
  generalize pickV s0 s1 k = ps at *
  generalize pickV u0 u1 i = pu at *
  generalize pickV d0 d1 j = pd at *
  obtain ⟨⟨x1, x2⟩, x3⟩ := X
  obtain ⟨⟨y1, y2⟩, y3⟩ := Y
  obtain ⟨⟨z1, z2⟩, z3⟩ := Z
  obtain ⟨P1, P2⟩ := P
  obtain ⟨Q1, Q2⟩ := Q
  obtain ⟨R1, R2⟩ := R
  have C1 := Lib.hid c1
  have C3 := Lib.hid c3
  have C5 := Lib.hid c5
  have M1 := Lib.hid m1
  have M2 := Lib.hid m2
  have M3 := Lib.hid m3
  have K1 := Lib.hid k1
  have K2 := Lib.hid k2
  have K3 := Lib.hid k3
  have K4 := Lib.hid k4
  have L1 := Lib.hid l1
  have L2 := Lib.hid l2
  have L3 := Lib.hid l3
  have L4 := Lib.hid l4
  have F1 := Lib.hid f1
  have F2 := Lib.hid f2
  have F3 := Lib.hid f3
  clear c1 c3 c5 qh qs qu qd m1 m2 m3 k1 k2 k3 k4 l1 l2 l3 l4 f1 f2 f3 vh vs vu vd hi hj hk
  have A0 := Lib.hid (Box5.new_ h0 h1 s0 s1 u0 u1 d0 d1 n0 n1 n2 sc kd ln up dn wd ht ca cn cc w)
  have hB := Lib.hid (((((Below.refl w.heap.size w).alloc (Nat.le_refl _) (.cells #[.string n0, .string n1, .string n2, .int .i64 kd, .int .i64 ln, .int .i64 up, .int .i64 dn, .string sc, .int .i64 wd, .int .i64 ht, .slice ca cn cc] 32)).alloc (by simp) (.cells #[.int .i64 h0, .int .i64 h1] 46)).alloc (by simp; omega) (.cells #[.int .i64 s0, .int .i64 s1] 46)).alloc (by simp; omega) (.cells #[.int .i64 u0, .int .i64 u1] 46) |>.alloc (by simp; omega) (.cells #[.int .i64 d0, .int .i64 d1] 46))
  go_enter Try.func10, Try.ntmps10
  go_wp2_with fail
  refine (awake_calls _).mono ?_
  rintro e w1 ⟨rfl, hb1⟩
  have A1 := Lib.hid (A0.out.below hb1)
  have HW := Lib.hid (And.intro (hB.out.trans (hb1.mono (by simp; omega))) (show w.heap.size + 4 < w1.heap.size by have := hb1.size; simp at this; omega))
  clear A0 hb1 hB
  obtain ⟨-, ⟨ha, hb, -, -⟩, -, -, -⟩ := A1.out
  go_wp2_with fail
  refine (L1.out _).mono ?_
  rintro e w2 ⟨rfl, hb2⟩
  clear ha hb
  have A2 := Lib.hid (A1.out.below hb2)
  replace HW := Lib.hid (And.intro (HW.out.1.trans (hb2.mono (by have := HW.out.2; omega))) (show w.heap.size + 4 < w2.heap.size by have := hb2.size; have := HW.out.2; omega))
  clear hb2 A1
  obtain ⟨-, -, ⟨ha, hb, -, -⟩, -, -⟩ := A2.out
  go_wp2_with fail
  refine (L2.out _).mono ?_
  rintro e w3 ⟨rfl, hb3⟩
  clear ha hb
  have A3 := Lib.hid (A2.out.below hb3)
  replace HW := Lib.hid (And.intro (HW.out.1.trans (hb3.mono (by have := HW.out.2; omega))) (show w.heap.size + 4 < w3.heap.size by have := hb3.size; have := HW.out.2; omega))
  clear hb3 A2
  obtain ⟨-, -, -, ⟨ha, hb, -, -⟩, -⟩ := A3.out
  go_wp2_with fail
  refine (L3.out _).mono ?_
  rintro e w4 ⟨rfl, hb4⟩
  clear ha hb
  have A4 := Lib.hid (A3.out.below hb4)
  replace HW := Lib.hid (And.intro (HW.out.1.trans (hb4.mono (by have := HW.out.2; omega))) (show w.heap.size + 4 < w4.heap.size by have := hb4.size; have := HW.out.2; omega))
  clear hb4 A3
  obtain ⟨-, -, -, -, ⟨ha, hb, -, -⟩⟩ := A4.out
  go_wp2_with fail
  refine (L4.out _).mono ?_
  rintro e w5 ⟨rfl, hb5⟩
  clear ha hb
  have A5 := Lib.hid (A4.out.below hb5)
  replace HW := Lib.hid (And.intro (HW.out.1.trans (hb5.mono (by have := HW.out.2; omega))) (show w.heap.size + 4 < w5.heap.size by have := hb5.size; have := HW.out.2; omega))
  clear hb5 A4
  obtain ⟨-, ⟨ha, hb, -, -⟩, -, -, -⟩ := A5.out
  go_wp2_with fail
  refine (C1.out _).mono ?_
  rintro e v1 ⟨rfl, hb6⟩
  clear ha hb
  have A6 := Lib.hid ((A5.out.below hb6).alloc (.cells #[.int .i64 x1, .int .i64 x2] 46))
  have S6 := Lib.hid (AtS.new_ x1 x2 46 v1)
  have hp : w.heap.size + 4 < v1.heap.size := by have := hb6.size; have := HW.out.2; omega
  replace HW := Lib.hid (And.intro ((HW.out.1.trans (hb6.mono (by have := HW.out.2; omega))).alloc (by omega) (.cells #[.int .i64 x1, .int .i64 x2] 46)) hp)
  clear hb6 A5 L1 L2 L3 L4 C1
  obtain ⟨p, hpe⟩ : ∃ p, v1.heap.size = p := ⟨_, rfl⟩
  replace S6 : Hid (AtS (v1.alloc (.cells #[.int .i64 x1, .int .i64 x2] 46)) p x1 x2) := Lib.hid (by rw [← hpe]; exact S6.out)
  rw [hpe] at hp
  go_upto_if 55 with fail
  go_cut [22] (fun t wx => Box5 wx w.heap.size h0 h1 s0 s1 u0 u1 d0 d1 n0 n1 n2 sc kd ln up dn wd ht ca cn cc ∧ AtS wx p x1 x2 ∧ Below w.heap.size w wx)
  case first =>
    as_aux_lemma =>
    by_cases hx : x3 = 0
    · subst hx
      have m := M1.out rfl
      change P2 = 0 ∧ x1 ≤ P1 ∧ P1 ≤ x2 at m
      obtain ⟨rfl, m1, m2⟩ := m
      have HS := Lib.hid (fun W => Has_calls x1 x2 P1 ⟨m1, m2⟩ W)
      clear m1 m2
      obtain ⟨-, ⟨ha, hb, -, -⟩, -, -, -⟩ := A6.out
      go_wp2_with fail
      refine (K1.out _).mono ?_
      rintro e v2 ⟨rfl, hb7⟩
      have A7 := Lib.hid (A6.out.below hb7)
      have S7 := Lib.hid (S6.out.below hb7)
      have W7 := Lib.hid (HW.out.1.trans (hb7.mono (by have := HW.out.2; rw [World.size_alloc]; omega)))
      have g7 : w.heap.size ≤ v2.heap.size := by have h1 := hb7.size; have h2 := HW.out.2; rw [World.size_alloc] at h1; omega
      clear ha hb hb7
      go_wp2_with fail
      refine (F1.out _).mono ?_
      rintro e v3 ⟨rfl, hb8⟩
      have A8 := Lib.hid (A7.out.below hb8)
      have S8 := Lib.hid (S7.out.below hb8)
      have W8 := Lib.hid (W7.out.trans (hb8.mono g7))
      have g8 : w.heap.size ≤ v3.heap.size := by have := hb8.size; omega
      clear hb8
      obtain ⟨ra, rb, -, -⟩ := S8.out
      go_wp2_with fail
      refine (HS.out _).mono ?_
      rintro e v4 ⟨rfl, hb9⟩
      have A9 := Lib.hid (A8.out.below hb9)
      have S9 := Lib.hid (S8.out.below hb9)
      have W9 := Lib.hid (W8.out.trans (hb9.mono g8))
      clear hb9 ra rb
      go_wp2_with fail
      go_meet
      exact ⟨A9.out, S9.out, W9.out⟩
    · have hx' : ((x3 : Int) == 0) = false := by simp [hx]
      clear hx
      go_wp2_with fail
      go_meet
      exact ⟨A6.out, S6.out, HW.out.1⟩
  case rest =>
    obtain ⟨hbox, hat, hbel⟩ := hcut
    have g7 := hbel.size
    have A7 := Lib.hid hbox
    have S7 := Lib.hid hat
    have HP := Lib.hid hp
    have W7 := Lib.hid hbel
    clear A6 S6 HW M1 K1 F1 hp hpe hbox hat hbel
    obtain ⟨⟨f0, f1, f2, f3, f4, f5, f6, f7, f8, f9, f10, fl⟩, -, -, ⟨ua, ub, uz, ul⟩, ⟨da, db, dz, dl⟩⟩ := A7.out
    go_wp2_with fail
    refine (C5.out _).mono ?_
    rintro e v3 ⟨rfl, hb8⟩
    clear f0 f1 f2 f3 f4 f5 f6 f7 f8 f9 f10 fl ua ub uz ul da db dz dl
    have A8 := Lib.hid (((A7.out.below hb8).far (p := ⟨p, 0, none⟩) HP.out (.int .i64 y1)).far (p := ⟨p, 1, none⟩) HP.out (.int .i64 y2))
    have S8 := Lib.hid ((S7.out.below hb8).put y1 y2)
    have W8 := Lib.hid (((W7.out.trans (hb8.mono g7)).setCell (p := ⟨p, 0, none⟩) (by have := HP.out; show w.heap.size ≤ p; omega) (.int .i64 y1)).setCell (p := ⟨p, 1, none⟩) (by have := HP.out; show w.heap.size ≤ p; omega) (.int .i64 y2))
    obtain ⟨sa, sb, sz, sl⟩ := S7.out.below hb8
    clear hb8 A7 S7 W7
    have GY : Hid (Gd w _ p y1 y2 h0 h1 s0 s1 u0 u1 d0 d1 n0 n1 n2 sc kd ln up dn wd ht ca cn cc) := Lib.hid ⟨A8.out, S8.out, W8.out⟩
    clear A8 S8 W8 g7
    go_upto_if 81 with fail
    clear sa sb sz sl
    go_cut [24] (fun t wx => Gd w wx p y1 y2 h0 h1 s0 s1 u0 u1 d0 d1 n0 n1 n2 sc kd ln up dn wd ht ca cn cc)
    case first =>
      as_aux_lemma =>
      by_cases hy : y3 = 0
      · subst hy
        have m := M2.out rfl
        change Q2 = 0 ∧ y1 ≤ Q1 ∧ Q1 ≤ y2 at m
        obtain ⟨rfl, m1, m2⟩ := m
        have HS := Lib.hid (fun W => Has_calls y1 y2 Q1 ⟨m1, m2⟩ W)
        have k2 := fun W (h : Gd w W p y1 y2 h0 h1 s0 s1 u0 u1 d0 d1 n0 n1 n2 sc kd ln up dn wd ht ca cn cc) => (K2.out W).mono fun _ _ ⟨he, hb⟩ => And.intro he (h.below hb)
        have k3 := fun W (h : Gd w W p y1 y2 h0 h1 s0 s1 u0 u1 d0 d1 n0 n1 n2 sc kd ln up dn wd ht ca cn cc) => (K3.out W).mono fun _ _ ⟨he, hb⟩ => And.intro he (h.below hb)
        have f2 := fun W (h : Gd w W p y1 y2 h0 h1 s0 s1 u0 u1 d0 d1 n0 n1 n2 sc kd ln up dn wd ht ca cn cc) => (F2.out W).mono fun _ _ ⟨he, hb⟩ => And.intro he (h.below hb)
        have K2' := Lib.hid k2
        have K3' := Lib.hid k3
        have F2' := Lib.hid f2
        have hg := GY.out.drew
        clear m1 m2 k2 k3 f2 M2 M3 K2 K3 K4 F2 F3 C3
        obtain ⟨f0, f1, f2, f3, f4, f5, f6, f7, f8, f9, f10, sa, sb, ua, ub, da, db⟩ := GY.out.cells
        go_wp2_with fail
        go_region_held3 (fun w' => w'.cell? ⟨w.heap.size, 0, none⟩ = some (.string n0) ∧ w'.cell? ⟨w.heap.size, 1, none⟩ = some (.string n1) ∧ w'.cell? ⟨w.heap.size, 2, none⟩ = some (.string n2) ∧ w'.cell? ⟨w.heap.size, 3, none⟩ = some (.int .i64 kd) ∧ w'.cell? ⟨w.heap.size, 4, none⟩ = some (.int .i64 ln) ∧ w'.cell? ⟨w.heap.size, 5, none⟩ = some (.int .i64 up) ∧ w'.cell? ⟨w.heap.size, 6, none⟩ = some (.int .i64 dn) ∧ w'.cell? ⟨w.heap.size, 7, none⟩ = some (.string sc) ∧ w'.cell? ⟨w.heap.size, 8, none⟩ = some (.int .i64 wd) ∧ w'.cell? ⟨w.heap.size, 9, none⟩ = some (.int .i64 ht) ∧ w'.cell? ⟨w.heap.size, 10, none⟩ = some (.slice ca cn cc) ∧ w'.cell? ⟨w.heap.size + 1 + 1, 0, none⟩ = some (.int .i64 s0) ∧ w'.cell? ⟨w.heap.size + 1 + 1, 1, none⟩ = some (.int .i64 s1) ∧ w'.cell? ⟨w.heap.size + 1 + 1 + 1, 0, none⟩ = some (.int .i64 u0) ∧ w'.cell? ⟨w.heap.size + 1 + 1 + 1, 1, none⟩ = some (.int .i64 u1) ∧ w'.cell? ⟨w.heap.size + 1 + 1 + 1 + 1, 0, none⟩ = some (.int .i64 d0) ∧ w'.cell? ⟨w.heap.size + 1 + 1 + 1 + 1, 1, none⟩ = some (.int .i64 d1)) (first | go_keep | exact Gd.cells (by assumption)) (first | (go_at_call 36; (with_reducible refine (K2'.out _ (by assumption)).mono ?_); rintro e vv ⟨rfl, hgd⟩) | (go_at_call 36; (with_reducible refine (K3'.out _ (by assumption)).mono ?_); rintro e vv ⟨rfl, hgd⟩) | (go_at_call 18; (with_reducible refine (F2'.out _ (by assumption)).mono ?_); rintro e vv ⟨rfl, hgd⟩))
        have hat := hgd.at_
        obtain ⟨ra, rb, -, -⟩ := hat
        go_wp2_with fail
        refine (HS.out _).mono ?_
        rintro e vz ⟨rfl, hbz⟩
        have GZ := Lib.hid (hgd.below hbz)
        clear ra rb hbz
        go_wp2_with fail
        go_meet
        exact GZ.out
      · have hy' : ((y3 : Int) == 0) = false := by simp [hy]
        clear hy
        go_wp2_with fail
        go_meet
        exact GY.out
    case rest =>
      have g7 := hcut.bel.size
      have GX := Lib.hid hcut
      clear hcut GY M2 F2 C5
      obtain ⟨f0, f1, f2, f3, f4, f5, f6, f7, f8, f9, f10, sa, sb, ua, ub, da, db⟩ := GX.out.cells
      go_wp2_with fail
      refine (C3.out _).mono ?_
      rintro e v5 ⟨rfl, hb8⟩
      clear f0 f1 f2 f3 f4 f5 f6 f7 f8 f9 f10 sa sb ua ub da db
      have G8 := GX.out.below hb8
      have GZ : Hid (Gd w _ p z1 z2 h0 h1 s0 s1 u0 u1 d0 d1 n0 n1 n2 sc kd ln up dn wd ht ca cn cc) := Lib.hid ⟨(G8.box.far (p := ⟨p, 0, none⟩) HP.out (.int .i64 z1)).far (p := ⟨p, 1, none⟩) HP.out (.int .i64 z2), G8.at_.put z1 z2, (G8.bel.setCell (p := ⟨p, 0, none⟩) (by have := HP.out; show w.heap.size ≤ p; omega) (.int .i64 z1)).setCell (p := ⟨p, 1, none⟩) (by have := HP.out; show w.heap.size ≤ p; omega) (.int .i64 z2)⟩
      obtain ⟨sa, sb, sz, sl⟩ := G8.at_
      clear hb8 G8 GX g7
      by_cases hz : z3 = 0
      · subst hz
        have m := M3.out rfl
        change R2 = 0 ∧ z1 ≤ R1 ∧ R1 ≤ z2 at m
        obtain ⟨rfl, m1, m2⟩ := m
        have HS := Lib.hid (fun W => Has_calls z1 z2 R1 ⟨m1, m2⟩ W)
        have k2 := fun W (h : Gd w W p z1 z2 h0 h1 s0 s1 u0 u1 d0 d1 n0 n1 n2 sc kd ln up dn wd ht ca cn cc) => (K2.out W).mono fun _ _ ⟨he, hb⟩ => And.intro he (h.below hb)
        have k3 := fun W (h : Gd w W p z1 z2 h0 h1 s0 s1 u0 u1 d0 d1 n0 n1 n2 sc kd ln up dn wd ht ca cn cc) => (K3.out W).mono fun _ _ ⟨he, hb⟩ => And.intro he (h.below hb)
        have k4 := fun W (h : Gd w W p z1 z2 h0 h1 s0 s1 u0 u1 d0 d1 n0 n1 n2 sc kd ln up dn wd ht ca cn cc) => (K4.out W).mono fun _ _ ⟨he, hb⟩ => And.intro he (h.below hb)
        have f3 := fun W (h : Gd w W p z1 z2 h0 h1 s0 s1 u0 u1 d0 d1 n0 n1 n2 sc kd ln up dn wd ht ca cn cc) => (F3.out W).mono fun _ _ ⟨he, hb⟩ => And.intro he (h.below hb)
        have K2' := Lib.hid k2
        have K3' := Lib.hid k3
        have K4' := Lib.hid k4
        have F3' := Lib.hid f3
        clear m1 m2 k2 k3 k4 f3 M3 K2 K3 K4 F3 C3
        go_upto_region 18 with fail
        clear sa sb sz sl
        have hg := GZ.out.drew
        obtain ⟨f0, f1, f2, f3, f4, f5, f6, f7, f8, f9, f10, sa, sb, ua, ub, da, db⟩ := GZ.out.cells
        go_region_held3 (fun w' => w'.cell? ⟨w.heap.size, 0, none⟩ = some (.string n0) ∧ w'.cell? ⟨w.heap.size, 1, none⟩ = some (.string n1) ∧ w'.cell? ⟨w.heap.size, 2, none⟩ = some (.string n2) ∧ w'.cell? ⟨w.heap.size, 3, none⟩ = some (.int .i64 kd) ∧ w'.cell? ⟨w.heap.size, 4, none⟩ = some (.int .i64 ln) ∧ w'.cell? ⟨w.heap.size, 5, none⟩ = some (.int .i64 up) ∧ w'.cell? ⟨w.heap.size, 6, none⟩ = some (.int .i64 dn) ∧ w'.cell? ⟨w.heap.size, 7, none⟩ = some (.string sc) ∧ w'.cell? ⟨w.heap.size, 8, none⟩ = some (.int .i64 wd) ∧ w'.cell? ⟨w.heap.size, 9, none⟩ = some (.int .i64 ht) ∧ w'.cell? ⟨w.heap.size, 10, none⟩ = some (.slice ca cn cc) ∧ w'.cell? ⟨w.heap.size + 1 + 1, 0, none⟩ = some (.int .i64 s0) ∧ w'.cell? ⟨w.heap.size + 1 + 1, 1, none⟩ = some (.int .i64 s1) ∧ w'.cell? ⟨w.heap.size + 1 + 1 + 1, 0, none⟩ = some (.int .i64 u0) ∧ w'.cell? ⟨w.heap.size + 1 + 1 + 1, 1, none⟩ = some (.int .i64 u1) ∧ w'.cell? ⟨w.heap.size + 1 + 1 + 1 + 1, 0, none⟩ = some (.int .i64 d0) ∧ w'.cell? ⟨w.heap.size + 1 + 1 + 1 + 1, 1, none⟩ = some (.int .i64 d1)) (first | go_keep | exact Gd.cells (by assumption)) (first | (go_at_call 36; (with_reducible refine (K2'.out _ (by assumption)).mono ?_); rintro e vv ⟨rfl, hgd⟩) | (go_at_call 36; (with_reducible refine (K3'.out _ (by assumption)).mono ?_); rintro e vv ⟨rfl, hgd⟩) | (go_at_call 36; (with_reducible refine (K4'.out _ (by assumption)).mono ?_); rintro e vv ⟨rfl, hgd⟩) | (go_at_call 16; (with_reducible refine (F3'.out _ (by assumption)).mono ?_); rintro e vv ⟨rfl, hgd⟩))
        have hat := hgd.at_
        obtain ⟨ra, rb, -, -⟩ := hat
        go_wp2_with fail
        refine (HS.out _).mono ?_
        rintro e vz ⟨rfl, hbz⟩
        have GE := Lib.hid (hgd.below hbz)
        clear ra rb hbz
        go_wp2_with fail
        go_returns
        exact ⟨rfl, GE.out.bel⟩
      · have hz' : ((z3 : Int) == 0) = false := by simp [hz]
        clear hz
        go_wp2_with fail
        go_returns
        exact ⟨rfl, GZ.out.bel⟩
end Go.Proofs.Ytfalmbcnbomaoaa
