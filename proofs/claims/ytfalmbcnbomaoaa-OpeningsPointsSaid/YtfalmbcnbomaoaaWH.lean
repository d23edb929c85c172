/- the law OpeningsSpans returns true -/
import Derived.Test.YtfalmbcnbomaoaaWE
import Derived.Test.YtfalmbcnbomaoaaWF
import Derived.Test.YtfalmbcnbomaoaaWG
namespace Go.Proofs.Ytfalmbcnbomaoaa
open Go.Proofs.Ytfalmbcnbomaoaa.DivLaw Go.Proofs.Ytfalmbcnbomaoaa.Open Go.RowKit
set_option linter.unusedVariables false

/-- The law's boxes of a link and four spans. -/
structure Box5 (W : World) (g : Nat) (h0 h1 s0 s1 u0 u1 d0 d1 : Int) (n0 n1 n2 sc : ByteArray) (kd ln up dn wd ht : Int) (ca : Option Addr) (cn cc : Nat) : Prop where
  l : AtL W g n0 n1 n2 sc kd ln up dn wd ht ca cn cc
  h : AtS W (g + 1) h0 h1
  s : AtS W (g + 2) s0 s1
  u : AtS W (g + 3) u0 u1
  d : AtS W (g + 4) d0 d1
theorem Box5.below {W w1 : World} {g : Nat} {h0 h1 s0 s1 u0 u1 d0 d1 : Int} {n0 n1 n2 sc : ByteArray} {kd ln up dn wd ht : Int} {ca : Option Addr} {cn cc : Nat} (h : Box5 W g h0 h1 s0 s1 u0 u1 d0 d1 n0 n1 n2 sc kd ln up dn wd ht ca cn cc) (hb : Below W.heap.size W w1) : Box5 w1 g h0 h1 s0 s1 u0 u1 d0 d1 n0 n1 n2 sc kd ln up dn wd ht ca cn cc :=
  ⟨h.l.below hb, h.h.below hb, h.s.below hb, h.u.below hb, h.d.below hb⟩
theorem Box5.alloc {W : World} {g : Nat} {h0 h1 s0 s1 u0 u1 d0 d1 : Int} {n0 n1 n2 sc : ByteArray} {kd ln up dn wd ht : Int} {ca : Option Addr} {cn cc : Nat} (h : Box5 W g h0 h1 s0 s1 u0 u1 d0 d1 n0 n1 n2 sc kd ln up dn wd ht ca cn cc) (o : Obj) : Box5 (W.alloc o) g h0 h1 s0 s1 u0 u1 d0 d1 n0 n1 n2 sc kd ln up dn wd ht ca cn cc := h.below ((Below.refl _ _).alloc (Nat.le_refl _) o)
theorem Box5.new_ (h0 h1 s0 s1 u0 u1 d0 d1 : Int) (n0 n1 n2 sc : ByteArray) (kd ln up dn wd ht : Int) (ca : Option Addr) (cn cc : Nat) (w : World) : Box5 (((((w.alloc (.cells #[.string n0, .string n1, .string n2, .int .i64 kd, .int .i64 ln, .int .i64 up, .int .i64 dn, .string sc, .int .i64 wd, .int .i64 ht, .slice ca cn cc] 32)).alloc (.cells #[.int .i64 h0, .int .i64 h1] 46)).alloc (.cells #[.int .i64 s0, .int .i64 s1] 46)).alloc (.cells #[.int .i64 u0, .int .i64 u1] 46)).alloc (.cells #[.int .i64 d0, .int .i64 d1] 46)) w.heap.size h0 h1 s0 s1 u0 u1 d0 d1 n0 n1 n2 sc kd ln up dn wd ht ca cn cc := by
  refine ⟨((((AtL.new_ n0 n1 n2 sc kd ln up dn wd ht ca cn cc w).alloc _).alloc _).alloc _).alloc _, ?_, ?_, ?_, ?_⟩
  · have h := AtS.new_ h0 h1 46 (w.alloc (.cells #[.string n0, .string n1, .string n2, .int .i64 kd, .int .i64 ln, .int .i64 up, .int .i64 dn, .string sc, .int .i64 wd, .int .i64 ht, .slice ca cn cc] 32))
    simp only [World.size_alloc] at h
    exact ((h.alloc _).alloc _).alloc _
  · have h := AtS.new_ s0 s1 46 ((w.alloc (.cells #[.string n0, .string n1, .string n2, .int .i64 kd, .int .i64 ln, .int .i64 up, .int .i64 dn, .string sc, .int .i64 wd, .int .i64 ht, .slice ca cn cc] 32)).alloc (.cells #[.int .i64 h0, .int .i64 h1] 46))
    simp only [World.size_alloc] at h
    exact (h.alloc _).alloc _
  · have h := AtS.new_ u0 u1 46 (((w.alloc (.cells #[.string n0, .string n1, .string n2, .int .i64 kd, .int .i64 ln, .int .i64 up, .int .i64 dn, .string sc, .int .i64 wd, .int .i64 ht, .slice ca cn cc] 32)).alloc (.cells #[.int .i64 h0, .int .i64 h1] 46)).alloc (.cells #[.int .i64 s0, .int .i64 s1] 46))
    simp only [World.size_alloc] at h
    exact h.alloc _
  · have h := AtS.new_ d0 d1 46 ((((w.alloc (.cells #[.string n0, .string n1, .string n2, .int .i64 kd, .int .i64 ln, .int .i64 up, .int .i64 dn, .string sc, .int .i64 wd, .int .i64 ht, .slice ca cn cc] 32)).alloc (.cells #[.int .i64 h0, .int .i64 h1] 46)).alloc (.cells #[.int .i64 s0, .int .i64 s1] 46)).alloc (.cells #[.int .i64 u0, .int .i64 u1] 46))
    simp only [World.size_alloc] at h
    exact h

set_option maxRecDepth 100000 in
set_option maxHeartbeats 16000000 in
theorem Spans_calls (n0 n1 n2 sc : ByteArray) (kd ln up dn wd ht : Int) (ca : Option Addr) (cn cc : Nat) (wb h0 h1 s0 s1 u0 u1 d0 d1 : Int) (w : World) : Calls Try.prog 9 #[.agg #[.string n0, .string n1, .string n2, .int .i64 kd, .int .i64 ln, .int .i64 up, .int .i64 dn, .string sc, .int .i64 wd, .int .i64 ht, .slice ca cn cc], .int .i64 wb, .agg #[.int .i64 h0, .int .i64 h1], .agg #[.int .i64 s0, .int .i64 s1], .agg #[.int .i64 u0, .int .i64 u1], .agg #[.int .i64 d0, .int .i64 d1]] w fun e w' => e = .returned (.bool true) ∧ Below w.heap.size w w' := by
  have c1 := fun W => WeirSpan_calls wb h0 h1 W
  have c2 := fun W => WeirSpan_ref wb h0 h1 W
  have c3 := fun W => GateSpan_calls n0 n1 n2 sc kd ln up dn wd ht ca cn cc s0 s1 u0 u1 d0 d1 W
  have c4 := fun W => GateSpan_ref n0 n1 n2 sc kd ln up dn wd ht ca cn cc s0 s1 u0 u1 d0 d1 W
  have c5 := fun W => OverSpan_calls n0 n1 n2 sc kd ln up dn wd ht ca cn cc u0 u1 d0 d1 W
  have c6 := fun W => OverSpan_ref n0 n1 n2 sc kd ln up dn wd ht ca cn cc u0 u1 d0 d1 W
  generalize SpanOf (validB h0 h1) _ _ = x at *
  generalize SpanOf (isGateB kd up wd ht && _) _ _ = y at *
  generalize SpanOf (isWeirB kd up wd && _) _ _ = z at *
  obtain ⟨⟨x1, x2⟩, x3⟩ := x
  obtain ⟨⟨y1, y2⟩, y3⟩ := y
  obtain ⟨⟨z1, z2⟩, z3⟩ := z
  have C1 := Lib.hid c1
  have C2 := Lib.hid c2
  have C3 := Lib.hid c3
  have C4 := Lib.hid c4
  have C5 := Lib.hid c5
  have C6 := Lib.hid c6
  clear c1 c2 c3 c4 c5 c6
  have A0 := Lib.hid (Box5.new_ h0 h1 s0 s1 u0 u1 d0 d1 n0 n1 n2 sc kd ln up dn wd ht ca cn cc w)
  have hB := Lib.hid (((((Below.refl w.heap.size w).alloc (Nat.le_refl _) (.cells #[.string n0, .string n1, .string n2, .int .i64 kd, .int .i64 ln, .int .i64 up, .int .i64 dn, .string sc, .int .i64 wd, .int .i64 ht, .slice ca cn cc] 32)).alloc (by simp) (.cells #[.int .i64 h0, .int .i64 h1] 46)).alloc (by simp; omega) (.cells #[.int .i64 s0, .int .i64 s1] 46)).alloc (by simp; omega) (.cells #[.int .i64 u0, .int .i64 u1] 46) |>.alloc (by simp; omega) (.cells #[.int .i64 d0, .int .i64 d1] 46))
  go_enter Try.func9, Try.ntmps9
  go_wp2_with fail
  refine (awake_calls _).mono ?_
  rintro e w1 ⟨rfl, hb1⟩
  have A1 := Lib.hid (A0.out.below hb1)
  have HW := Lib.hid (And.intro (hB.out.trans (hb1.mono (by simp; omega))) (show w.heap.size ≤ w1.heap.size by have := hb1.size; simp at this; omega))
  clear A0 hb1 hB
  obtain ⟨-, ⟨ha, hb, hz, hl⟩, -, -, -⟩ := A1.out
  go_wp2_with fail
  refine (C1.out _).mono ?_
  rintro e v1 ⟨rfl, hb2⟩
  clear ha hb hz hl
  have A2 := Lib.hid ((A1.out.below hb2).alloc (.cells #[.int .i64 x1, .int .i64 x2] 46))
  clear A1
  have R1 := Lib.hid (AtS.new_ x1 x2 46 v1)
  replace HW := Lib.hid (And.intro ((HW.out.1.trans (hb2.mono HW.out.2)).alloc (Nat.le_trans HW.out.2 hb2.size) (.cells #[.int .i64 x1, .int .i64 x2] 46)) (Nat.le_trans HW.out.2 (Nat.le_trans hb2.size (by simp : v1.heap.size ≤ (v1.alloc (.cells #[.int .i64 x1, .int .i64 x2] 46)).heap.size))))
  clear hb2
  obtain ⟨-, ⟨ha, hb, hz, hl⟩, -, -, -⟩ := A2.out
  go_wp2_with fail
  refine (C2.out _).mono ?_
  rintro e v2 ⟨rfl, hb3⟩
  clear ha hb hz hl
  have A3 := Lib.hid ((A2.out.below hb3).alloc (.cells #[.int .i64 x1, .int .i64 x2] 46))
  clear A2
  replace R1 := Lib.hid ((R1.out.below hb3).alloc (.cells #[.int .i64 x1, .int .i64 x2] 46))
  have R2 := Lib.hid (AtS.new_ x1 x2 46 v2)
  replace HW := Lib.hid (And.intro ((HW.out.1.trans (hb3.mono HW.out.2)).alloc (Nat.le_trans HW.out.2 hb3.size) (.cells #[.int .i64 x1, .int .i64 x2] 46)) (Nat.le_trans HW.out.2 (Nat.le_trans hb3.size (by simp : v2.heap.size ≤ (v2.alloc (.cells #[.int .i64 x1, .int .i64 x2] 46)).heap.size))))
  clear hb3
  obtain ⟨⟨f0, f1, f2, f3, f4, f5, f6, f7, f8, f9, f10, fl⟩, -, ⟨sa, sb, sz, sl⟩, ⟨ua, ub, uz, ul⟩, ⟨da, db, dz, dl⟩⟩ := A3.out
  go_wp2_with fail
  refine (C3.out _).mono ?_
  rintro e v3 ⟨rfl, hb4⟩
  clear f0 f1 f2 f3 f4 f5 f6 f7 f8 f9 f10 fl sa sb sz sl ua ub uz ul da db dz dl
  have A4 := Lib.hid ((A3.out.below hb4).alloc (.cells #[.int .i64 y1, .int .i64 y2] 46))
  clear A3
  replace R1 := Lib.hid ((R1.out.below hb4).alloc (.cells #[.int .i64 y1, .int .i64 y2] 46))
  replace R2 := Lib.hid ((R2.out.below hb4).alloc (.cells #[.int .i64 y1, .int .i64 y2] 46))
  have R3 := Lib.hid (AtS.new_ y1 y2 46 v3)
  replace HW := Lib.hid (And.intro ((HW.out.1.trans (hb4.mono HW.out.2)).alloc (Nat.le_trans HW.out.2 hb4.size) (.cells #[.int .i64 y1, .int .i64 y2] 46)) (Nat.le_trans HW.out.2 (Nat.le_trans hb4.size (by simp : v3.heap.size ≤ (v3.alloc (.cells #[.int .i64 y1, .int .i64 y2] 46)).heap.size))))
  clear hb4
  obtain ⟨⟨f0, f1, f2, f3, f4, f5, f6, f7, f8, f9, f10, fl⟩, -, ⟨sa, sb, sz, sl⟩, ⟨ua, ub, uz, ul⟩, ⟨da, db, dz, dl⟩⟩ := A4.out
  go_wp2_with fail
  refine (C4.out _).mono ?_
  rintro e v4 ⟨rfl, hb5⟩
  clear f0 f1 f2 f3 f4 f5 f6 f7 f8 f9 f10 fl sa sb sz sl ua ub uz ul da db dz dl
  have A5 := Lib.hid ((A4.out.below hb5).alloc (.cells #[.int .i64 y1, .int .i64 y2] 46))
  clear A4
  replace R1 := Lib.hid ((R1.out.below hb5).alloc (.cells #[.int .i64 y1, .int .i64 y2] 46))
  replace R2 := Lib.hid ((R2.out.below hb5).alloc (.cells #[.int .i64 y1, .int .i64 y2] 46))
  replace R3 := Lib.hid ((R3.out.below hb5).alloc (.cells #[.int .i64 y1, .int .i64 y2] 46))
  have R4 := Lib.hid (AtS.new_ y1 y2 46 v4)
  replace HW := Lib.hid (And.intro ((HW.out.1.trans (hb5.mono HW.out.2)).alloc (Nat.le_trans HW.out.2 hb5.size) (.cells #[.int .i64 y1, .int .i64 y2] 46)) (Nat.le_trans HW.out.2 (Nat.le_trans hb5.size (by simp : v4.heap.size ≤ (v4.alloc (.cells #[.int .i64 y1, .int .i64 y2] 46)).heap.size))))
  clear hb5
  obtain ⟨⟨f0, f1, f2, f3, f4, f5, f6, f7, f8, f9, f10, fl⟩, -, -, ⟨ua, ub, uz, ul⟩, ⟨da, db, dz, dl⟩⟩ := A5.out
  go_wp2_with fail
  refine (C5.out _).mono ?_
  rintro e v5 ⟨rfl, hb6⟩
  clear f0 f1 f2 f3 f4 f5 f6 f7 f8 f9 f10 fl ua ub uz ul da db dz dl
  have A6 := Lib.hid ((A5.out.below hb6).alloc (.cells #[.int .i64 z1, .int .i64 z2] 46))
  clear A5
  replace R1 := Lib.hid ((R1.out.below hb6).alloc (.cells #[.int .i64 z1, .int .i64 z2] 46))
  replace R2 := Lib.hid ((R2.out.below hb6).alloc (.cells #[.int .i64 z1, .int .i64 z2] 46))
  replace R3 := Lib.hid ((R3.out.below hb6).alloc (.cells #[.int .i64 z1, .int .i64 z2] 46))
  replace R4 := Lib.hid ((R4.out.below hb6).alloc (.cells #[.int .i64 z1, .int .i64 z2] 46))
  have R5 := Lib.hid (AtS.new_ z1 z2 46 v5)
  replace HW := Lib.hid (And.intro ((HW.out.1.trans (hb6.mono HW.out.2)).alloc (Nat.le_trans HW.out.2 hb6.size) (.cells #[.int .i64 z1, .int .i64 z2] 46)) (Nat.le_trans HW.out.2 (Nat.le_trans hb6.size (by simp : v5.heap.size ≤ (v5.alloc (.cells #[.int .i64 z1, .int .i64 z2] 46)).heap.size))))
  clear hb6
  obtain ⟨⟨f0, f1, f2, f3, f4, f5, f6, f7, f8, f9, f10, fl⟩, -, -, ⟨ua, ub, uz, ul⟩, ⟨da, db, dz, dl⟩⟩ := A6.out
  go_wp2_with fail
  refine (C6.out _).mono ?_
  rintro e v6 ⟨rfl, hb7⟩
  clear f0 f1 f2 f3 f4 f5 f6 f7 f8 f9 f10 fl ua ub uz ul da db dz dl
  have A7 := Lib.hid ((A6.out.below hb7).alloc (.cells #[.int .i64 z1, .int .i64 z2] 46))
  clear A6
  replace R1 := Lib.hid ((R1.out.below hb7).alloc (.cells #[.int .i64 z1, .int .i64 z2] 46))
  replace R2 := Lib.hid ((R2.out.below hb7).alloc (.cells #[.int .i64 z1, .int .i64 z2] 46))
  replace R3 := Lib.hid ((R3.out.below hb7).alloc (.cells #[.int .i64 z1, .int .i64 z2] 46))
  replace R4 := Lib.hid ((R4.out.below hb7).alloc (.cells #[.int .i64 z1, .int .i64 z2] 46))
  replace R5 := Lib.hid ((R5.out.below hb7).alloc (.cells #[.int .i64 z1, .int .i64 z2] 46))
  have R6 := Lib.hid (AtS.new_ z1 z2 46 v6)
  replace HW := Lib.hid (And.intro ((HW.out.1.trans (hb7.mono HW.out.2)).alloc (Nat.le_trans HW.out.2 hb7.size) (.cells #[.int .i64 z1, .int .i64 z2] 46)) (Nat.le_trans HW.out.2 (Nat.le_trans hb7.size (by simp : v6.heap.size ≤ (v6.alloc (.cells #[.int .i64 z1, .int .i64 z2] 46)).heap.size))))
  clear hb7
  obtain ⟨r1a, r1b, r1z, r1l⟩ := R1.out
  obtain ⟨r2a, r2b, r2z, r2l⟩ := R2.out
  obtain ⟨r3a, r3b, r3z, r3l⟩ := R3.out
  obtain ⟨r4a, r4b, r4z, r4l⟩ := R4.out
  obtain ⟨r5a, r5b, r5z, r5l⟩ := R5.out
  obtain ⟨r6a, r6b, r6z, r6l⟩ := R6.out
  go_wp2_with fail
  go_returns
  exact ⟨rfl, HW.out.1⟩
end Go.Proofs.Ytfalmbcnbomaoaa
