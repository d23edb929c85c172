/- Join of the program. -/
import Derived.Test.YtfhikdgdckfalaaShift
import Derived.Test.YtfhikdgdckfalaaConc
namespace Go.Proofs.Ytfhikdgdckfalaa
open Go.RowKit
set_option linter.unusedVariables false

def joinV (s t : SerD) : SerD × Int :=
  if validS s.f s.st s.ds = false ∨ validS t.f t.st t.ds = false then (zeroS, 1)
  else if ¬ s.st = t.st ∨ ¬ t.f = s.f + s.st * s.ds.length then (zeroS, 25)
  else if 10000 < s.ds.length + t.ds.length then (zeroS, 4)
  else (⟨s.f, s.st, s.ds ++ t.ds⟩, 0)
theorem ser_box2 (f st : Int) (A : Option Addr) (n c : Nat) (f2 st2 : Int) (A2 : Option Addr) (n2 c2 : Nat) (w : World) : ∃ Wa W0 W1, w.alloc (serO f st A n c) = Wa ∧ Wa.alloc (serO f2 st2 A2 n2 c2) = W0 ∧ W0.alloc (serO 0 0 none 0 0) = W1 ∧ Below w.heap.size w W1 ∧ SBox W1 w.heap.size f st A n c ∧ SBox W1 Wa.heap.size f2 st2 A2 n2 c2 ∧ ZBox W1 W0.heap.size ∧ w.heap.size < Wa.heap.size ∧ Wa.heap.size < W0.heap.size :=
  ⟨_, _, _, rfl, rfl, rfl, (((Below.refl _ _).alloc (Nat.le_refl _) _).alloc (by simp) _).alloc (by simp; omega) _, ((SBox.made w f st A n c).alloc _).alloc _, (SBox.made _ f2 st2 A2 n2 c2).alloc _, ZBox.made _, by simp, by simp⟩

set_option maxRecDepth 100000 in
set_option maxHeartbeats 8000000 in
theorem Join_calls {A A' : Option Addr} {n c n' c' : Nat} (s t : SerD) (w : World) (h : Ints w A n c s.ds) (h' : Ints w A' n' c' t.ds) :
    Calls Try.prog 39 #[serA s.f s.st A n c, serA t.f t.st A' n' c'] w (RetSer (joinV s t) w) := by
  obtain ⟨f, st, ds⟩ := s
  obtain ⟨f2, st2, ds2⟩ := t
  dsimp only at h h' ⊢
  obtain ⟨Wa, W0, W1, hWa, hW0, hW1, hb1, x1, y1, z1, hWW, hWX⟩ := ser_box2 f st A n c f2 st2 A' n' c' w
  have gv := gValid_calls f st W1 (h.below hb1)
  have gv2 := fun W (b : Below W1.heap.size W1 W) => gValid_calls f2 st2 W ((h'.below hb1).below b)
  obtain ⟨V, hV⟩ : ∃ V, joinV ⟨f, st, ds⟩ ⟨f2, st2, ds2⟩ = V := ⟨_, rfl⟩
  rw [hV]
  unfold joinV at hV
  dsimp only at hV
  have X1 := Lib.hid x1
  have Y1 := Lib.hid y1
  have Z1 := Lib.hid z1
  have B1 := Lib.hid hb1
  have I1 := Lib.hid (h.below hb1)
  have J1 := Lib.hid (h'.below hb1)
  have hW : w.heap.size ≤ W0.heap.size := by omega
  have hl := h.len
  have hl' := h'.len
  have hfw := h.few
  have hfw' := h'.few
  obtain ⟨k0, k1, k2, kl⟩ := x1.cells
  obtain ⟨m0, m1, m2, ml⟩ := y1.cells
  clear h h' hb1 x1 y1 z1
  cases hv : validS f st ds
  · rw [hv] at gv
    rw [if_pos (.inl hv)] at hV
    subst hV
    have GV := Lib.hid gv
    clear gv hv gv2 hl hl'
    go_enter Try.func39, Try.ntmps39
    go_wp2_with fail
    refine (GV.out).mono ?_
    rintro e w2 ⟨rfl, b2⟩
    have hz := Z1.out.below b2 Z1.out.b.lt
    have F := fin0g hz hW (below_then B1.out b2 B1.out.size) 1
    obtain ⟨z0, z1, z2, f0, f1, f2, zl⟩ := hz.cells
    clear b2 hz k0 k1 k2 m0 m1 m2
    go_wp2
    have q := F.out
    generalize ((w2.setCell ⟨W0.heap.size, 0, none⟩ (.int .i64 0)).setCell ⟨W0.heap.size, 1, none⟩ (.int .i64 0)).setCell ⟨W0.heap.size, 2, none⟩ (.slice none 0 0) = W3 at *
    obtain ⟨⟨⟨q0, q1, q2, -⟩, -, -, -, -⟩, q3⟩ := q
    exact bodyPost_ret (v := .tuple #[serA 0 0 none 0 0, .int .i64 1]) (by simp [results, Try.results39, go_sem, q0, q1, q2]) rfl q3
  cases hv2 : validS f2 st2 ds2
  · rw [hv] at gv
    simp only [hv2] at gv2
    rw [if_pos (.inr hv2)] at hV
    subst hV
    have GV := Lib.hid gv
    have GV2 := Lib.hid gv2
    clear gv hv gv2 hl hl' hv2
    go_enter Try.func39, Try.ntmps39
    go_wp2_with fail
    refine (GV.out).mono ?_
    rintro e w2 ⟨rfl, b2⟩
    have Z2 := Lib.hid (Z1.out.below b2 Z1.out.b.lt)
    have B2 := Lib.hid (below_then B1.out b2 B1.out.size)
    have y2 := Y1.out.below b2 Y1.out.lt
    obtain ⟨r0, r1, r2, rl⟩ := y2.cells
    have G2 := Lib.hid (GV2.out w2 b2)
    clear b2 y2 k0 k1 k2 m0 m1 m2
    go_wp2_with fail
    refine (G2.out).mono ?_
    rintro e w3 ⟨rfl, b3⟩
    have hz := Z2.out.below b3 Z2.out.b.lt
    have F := fin0g hz hW (below_then B2.out b3 B2.out.size) 1
    obtain ⟨z0, z1, z2, f0, f1, f2, zl⟩ := hz.cells
    clear b3 hz r0 r1 r2
    go_wp2
    have q := F.out
    generalize ((w3.setCell ⟨W0.heap.size, 0, none⟩ (.int .i64 0)).setCell ⟨W0.heap.size, 1, none⟩ (.int .i64 0)).setCell ⟨W0.heap.size, 2, none⟩ (.slice none 0 0) = W3 at *
    obtain ⟨⟨⟨q0, q1, q2, -⟩, -, -, -, -⟩, q3⟩ := q
    exact bodyPost_ret (v := .tuple #[serA 0 0 none 0 0, .int .i64 1]) (by simp [results, Try.results39, go_sem, q0, q1, q2]) rfl q3
  rw [hv] at gv
  simp only [hv2] at gv2
  rw [if_neg (by intro h; rcases h with h | h; rw [hv] at h; cases h; rw [hv2] at h; cases h)] at hV
  have GV := Lib.hid gv
  have GV2 := Lib.hid gv2
  obtain ⟨fo, -⟩ := validS_parts hv
  have f00 := fo.f0; have f01 := fo.f1; have s00 := fo.s0; have s01 := fo.s1; have n01 := fo.n1; have e00 := fo.e0; have e01 := fo.e1
  obtain ⟨fo2, -⟩ := validS_parts hv2
  have f10 := fo2.f0; have f11 := fo2.f1; have s10 := fo2.s0; have s11 := fo2.s1; have n11 := fo2.n1
  rw [hl] at hV n01 e00 e01
  rw [hl'] at hV n11
  have hm0 : 0 ≤ st * (n : Int) := Int.mul_nonneg (by omega) (by omega)
  have hm1 : st * (n : Int) ≤ 86400 * 10000 := Int.mul_le_mul (by omega) (by omega) (by omega) (by omega)
  obtain ⟨M, hM⟩ : ∃ M, st * (n : Int) = M := ⟨_, rfl⟩
  obtain ⟨F, hF⟩ : ∃ F, f + M = F := ⟨_, rfl⟩
  rw [hM] at hm0 hm1 e00 e01 hV
  rw [hF] at e00 e01 hV
  clear gv gv2 hv hv2 fo fo2
  by_cases hsh : ¬ st = st2 ∨ ¬ f2 = F
  · rw [if_pos hsh] at hV
    subst hV
    have hsh2 : ((st != st2) = true) ∨ ((st != st2) = false ∧ (f2 != F) = true) := by
      by_cases h : st = st2
      · exact .inr ⟨by simp [h], by simp; intro h2; rcases hsh with h3 | h3; exact h3 h; exact h3 h2⟩
      · exact .inl (by simp [h])
    clear hsh hl hl'
    rcases hsh2 with h1 | ⟨h1, h2⟩ <;> (
      go_enter Try.func39, Try.ntmps39
      go_wp2_with fail
      refine (GV.out).mono ?_
      rintro e w2 ⟨rfl, b2⟩
      have Z2 := Lib.hid (Z1.out.below b2 Z1.out.b.lt)
      have B2 := Lib.hid (below_then B1.out b2 B1.out.size)
      have y2 := Lib.hid (Y1.out.below b2 Y1.out.lt)
      have x2 := Lib.hid (X1.out.below b2 X1.out.lt)
      obtain ⟨r0, r1, r2, rl⟩ := y2.out.cells
      have G2 := Lib.hid (GV2.out w2 b2)
      clear b2 k0 k1 k2 m0 m1 m2
      go_wp2_with fail
      refine (G2.out).mono ?_
      rintro e w3 ⟨rfl, b3⟩
      have hz := Z2.out.below b3 Z2.out.b.lt
      have FF := fin0g hz hW (below_then B2.out b3 B2.out.size) 25
      obtain ⟨z0, z1, z2, f0, f1, f2', zl⟩ := hz.cells
      obtain ⟨t0, t1, t2, tl⟩ := (y2.out.below b3 y2.out.lt).cells
      obtain ⟨u0, u1, u2, ul⟩ := (x2.out.below b3 x2.out.lt).cells
      clear b3 hz r0 r1 r2
      go_wp2
      have q := FF.out
      generalize ((w3.setCell ⟨W0.heap.size, 0, none⟩ (.int .i64 0)).setCell ⟨W0.heap.size, 1, none⟩ (.int .i64 0)).setCell ⟨W0.heap.size, 2, none⟩ (.slice none 0 0) = W3 at *
      obtain ⟨⟨⟨q0, q1, q2, -⟩, -, -, -, -⟩, q3⟩ := q
      exact bodyPost_ret (v := .tuple #[serA 0 0 none 0 0, .int .i64 25]) (by simp [results, Try.results39, go_sem, q0, q1, q2]) rfl q3)
  rw [if_neg hsh] at hV
  have h1 : (st != st2) = false := by simp; by_cases h : st = st2; exact h; exact absurd (.inl h) hsh
  have h2 : (f2 != F) = false := by simp; by_cases h : f2 = F; exact h; exact absurd (.inr h) hsh
  clear hsh
  by_cases hn : 10000 < n + n'
  · rw [if_pos hn] at hV
    subst hV
    have hnz : 10000 < (n : Int) + (n' : Int) := by omega
    clear hl hl'
    go_enter Try.func39, Try.ntmps39
    go_wp2_with fail
    refine (GV.out).mono ?_
    rintro e w2 ⟨rfl, b2⟩
    have Z2 := Lib.hid (Z1.out.below b2 Z1.out.b.lt)
    have B2 := Lib.hid (below_then B1.out b2 B1.out.size)
    have y2 := Lib.hid (Y1.out.below b2 Y1.out.lt)
    have x2 := Lib.hid (X1.out.below b2 X1.out.lt)
    obtain ⟨r0, r1, r2, rl⟩ := y2.out.cells
    have G2 := Lib.hid (GV2.out w2 b2)
    clear b2 k0 k1 k2 m0 m1 m2
    go_wp2_with fail
    refine (G2.out).mono ?_
    rintro e w3 ⟨rfl, b3⟩
    have hz := Z2.out.below b3 Z2.out.b.lt
    have FF := fin0g hz hW (below_then B2.out b3 B2.out.size) 4
    obtain ⟨z0, z1, z2, f0, f1, f2', zl⟩ := hz.cells
    obtain ⟨t0, t1, t2, tl⟩ := (y2.out.below b3 y2.out.lt).cells
    obtain ⟨u0, u1, u2, ul⟩ := (x2.out.below b3 x2.out.lt).cells
    clear b3 hz r0 r1 r2
    go_wp2
    have q := FF.out
    generalize ((w3.setCell ⟨W0.heap.size, 0, none⟩ (.int .i64 0)).setCell ⟨W0.heap.size, 1, none⟩ (.int .i64 0)).setCell ⟨W0.heap.size, 2, none⟩ (.slice none 0 0) = W3 at *
    obtain ⟨⟨⟨q0, q1, q2, -⟩, -, -, -, -⟩, q3⟩ := q
    exact bodyPost_ret (v := .tuple #[serA 0 0 none 0 0, .int .i64 4]) (by simp [results, Try.results39, go_sem, q0, q1, q2]) rfl q3
  rw [if_neg hn] at hV
  subst hV
  have hnz : ¬ 10000 < (n : Int) + (n' : Int) := by omega
  have hnn : n + n' ≤ 1000000 := by omega
  clear hn
  go_enter Try.func39, Try.ntmps39
  go_wp2_with fail
  refine (GV.out).mono ?_
  rintro e w2 ⟨rfl, b2⟩
  have Z2 := Lib.hid (Z1.out.below b2 Z1.out.b.lt)
  have B2 := Lib.hid (below_then B1.out b2 B1.out.size)
  have y2 := Lib.hid (Y1.out.below b2 Y1.out.lt)
  have x2 := Lib.hid (X1.out.below b2 X1.out.lt)
  have I2 := Lib.hid (I1.out.below b2)
  have J2 := Lib.hid (J1.out.below b2)
  obtain ⟨r0, r1, r2, rl⟩ := y2.out.cells
  have G2 := Lib.hid (GV2.out w2 b2)
  clear b2 k0 k1 k2 m0 m1 m2
  go_wp2_with fail
  refine (G2.out).mono ?_
  rintro e w3 ⟨rfl, b3⟩
  have I3 := Lib.hid (I2.out.below b3)
  have J3 := Lib.hid (J2.out.below b3)
  have Z3 := Lib.hid (Z2.out.below b3 Z2.out.b.lt)
  have B3 := Lib.hid (below_then B2.out b3 B2.out.size)
  obtain ⟨z0, z1, z2, f0, f1, f2', zl⟩ := Z3.out.cells
  obtain ⟨t0, t1, t2, tl⟩ := (y2.out.below b3 y2.out.lt).cells
  obtain ⟨u0, u1, u2, ul⟩ := (x2.out.below b3 x2.out.lt).cells
  have ba : Below w3.heap.size w3 (w3.alloc (.cells #[.slice A n c, .slice A' n' c'] 23)).drew := below_drewN ((Below.refl w3.heap.size w3).alloc (Nat.le_refl _) _) 1
  have tc := two_cells (w := w3) (g := 0) (a := .slice A n c) (b := .slice A' n' c') (t := 23)
  have CC := Lib.hid (Concat_two w3.heap.size (w3.alloc (.cells #[.slice A n c, .slice A' n' c'] 23)).drew (by show w3.heap.size < (w3.alloc _).heap.size; simp) tc.1 tc.2 (I3.out.below ba) (J3.out.below ba) hnn)
  have KC : Hid (∀ W, Below w3.heap.size w3 W → W.cell? ⟨w.heap.size, 0, none⟩ = some (.int .i64 f) ∧ W.cell? ⟨w.heap.size, 1, none⟩ = some (.int .i64 st) ∧ W.cell? ⟨w.heap.size, 2, none⟩ = some (.slice A n c) ∧ W.cell? ⟨Wa.heap.size, 2, none⟩ = some (.slice A' n' c') ∧ W.frozen? ⟨W0.heap.size, 0, none⟩ = false ∧ W.frozen? ⟨W0.heap.size, 1, none⟩ = false ∧ W.frozen? ⟨W0.heap.size, 2, none⟩ = false) := Lib.hid fun W b =>
    ⟨(b.cell (p := ⟨w.heap.size, 0, none⟩) ul).trans u0, (b.cell (p := ⟨w.heap.size, 1, none⟩) ul).trans u1, (b.cell (p := ⟨w.heap.size, 2, none⟩) ul).trans u2, (b.cell (p := ⟨Wa.heap.size, 2, none⟩) tl).trans t2, (b.frozen (p := ⟨W0.heap.size, 0, none⟩) zl).trans f0, (b.frozen (p := ⟨W0.heap.size, 1, none⟩) zl).trans f1, (b.frozen (p := ⟨W0.heap.size, 2, none⟩) zl).trans f2'⟩
  have KA := Lib.hid (KC.out _ ba)
  have BA := Lib.hid ba
  have ne0 : ¬ w.heap.size = W0.heap.size := by omega
  have ne1 : ¬ W0.heap.size = w.heap.size := by omega
  have ne2 : ¬ Wa.heap.size = W0.heap.size := by omega
  have ne3 : ¬ W0.heap.size = Wa.heap.size := by omega
  have HNL : Hid (∀ W, Below w3.heap.size w3 W → ZBox W W0.heap.size) := Lib.hid fun W b => Z3.out.below b Z3.out.b.lt
  clear b3 ba tc r0 r1 r2 hl hl'
  go_wp2_with fail
  go_region_held3 (fun W => W.cell? ⟨w.heap.size, 0, none⟩ = some (.int .i64 f) ∧ W.cell? ⟨w.heap.size, 1, none⟩ = some (.int .i64 st) ∧ W.cell? ⟨w.heap.size, 2, none⟩ = some (.slice A n c) ∧ W.cell? ⟨Wa.heap.size, 2, none⟩ = some (.slice A' n' c') ∧ W.frozen? ⟨W0.heap.size, 0, none⟩ = false ∧ W.frozen? ⟨W0.heap.size, 1, none⟩ = false ∧ W.frozen? ⟨W0.heap.size, 2, none⟩ = false) (first | exact KA.out | exact KC.out _ (by assumption) | go_keep) ((go_at_call 42; (with_reducible refine CC.out.mono ?_); rintro e w4 ⟨v4, rfl, o4, b4⟩; obtain ⟨A4, n4, c4, rfl, i4, g4⟩ := o4.ints; have bb := below_then BA.out b4 BA.out.size; obtain ⟨⟨y0, y1, y2, yl⟩, yf⟩ := HNL.out _ bb))
  have hsz4 : W0.heap.size < (w3.alloc (.cells #[.slice A n c, .slice A' n' c'] 23)).drew.heap.size := Nat.lt_of_lt_of_le zl BA.out.size
  have FF := finSg (HNL.out w4 bb) hW (below_then B3.out bb B3.out.size) ⟨f, st, ds ++ ds2⟩ 0 i4 (fun ad e => Nat.lt_of_lt_of_le hsz4 (g4 ad e))
  dsimp only at FF
  clear bb i4 g4 o4 b4 y0 y1 y2
  go_wp2
  have q := FF.out
  generalize ((w4.setCell ⟨W0.heap.size, 0, none⟩ (.int .i64 f)).setCell ⟨W0.heap.size, 1, none⟩ (.int .i64 st)).setCell ⟨W0.heap.size, 2, none⟩ (.slice A4 n4 c4) = W3 at *
  obtain ⟨⟨⟨q0, q1, q2, -⟩, -, -, -, -⟩, q3⟩ := q
  exact bodyPost_ret (v := .tuple #[serA f st A4 n4 c4, .int .i64 0]) (by simp [results, Try.results39, go_sem, q0, q1, q2]) rfl q3
end Go.Proofs.Ytfhikdgdckfalaa
