/- Shift of the reference. -/
import Derived.Test.YtfhikdgdckfalaaShift
import Derived.Test.YtfhikdgdckfalaaStepI
import Derived.Test.YtfhikdgdckfalaaMB13
namespace Go.Proofs.Ytfhikdgdckfalaa
open Go.RowKit
set_option linter.unusedVariables false

set_option maxRecDepth 100000 in
set_option maxHeartbeats 8000000 in
theorem Shift_ref {A : Option Addr} {n c : Nat} {ds : List Int} (f st b : Int) (w : World) (h : Ints w A n c ds) :
    Calls Try.prog 36 #[serA f st A n c, .int .i64 b] w (RetSer (shiftV f st ds b) w) := by
  obtain ⟨W0, W1, hW0, hW1, hb1, x1, z1, hWW⟩ := ser_box f st A n c w
  have gv := rValid_calls f st W1 (h.below hb1)
  obtain ⟨V, hV⟩ : ∃ V, shiftV f st ds b = V := ⟨_, rfl⟩
  rw [hV]
  unfold shiftV at hV
  have X1 := Lib.hid x1
  have Z1 := Lib.hid z1
  have B1 := Lib.hid hb1
  have I1 := Lib.hid (h.below hb1)
  have hW := Nat.le_of_lt hWW
  obtain ⟨k0, k1, k2, kl⟩ := x1.cells
  clear h hb1 x1 z1
  cases hv : validS f st ds
  · rw [hv] at gv
    rw [if_pos hv] at hV
    subst hV
    have GV := Lib.hid gv
    clear gv hv
    go_enter Try.func36, Try.ntmps36
    go_wp2_with fail
    refine (GV.out).mono ?_
    rintro e w2 ⟨rfl, b2⟩
    have hz := Z1.out.below b2 Z1.out.b.lt
    have F := fin0g hz hW (below_then B1.out b2 B1.out.size) 1
    obtain ⟨z0, z1, z2, f0, f1, f2, zl⟩ := hz.cells
    clear b2 hz k0 k1 k2
    go_wp2
    have q := F.out
    generalize ((w2.setCell ⟨W0.heap.size, 0, none⟩ (.int .i64 0)).setCell ⟨W0.heap.size, 1, none⟩ (.int .i64 0)).setCell ⟨W0.heap.size, 2, none⟩ (.slice none 0 0) = W3 at *
    obtain ⟨⟨⟨q0, q1, q2, -⟩, -, -, -, -⟩, q3⟩ := q
    exact bodyPost_ret (v := .tuple #[serA 0 0 none 0 0, .int .i64 1]) (by simp [results, Try.results36, go_sem, q0, q1, q2]) rfl q3
  · rw [hv] at gv
    rw [if_neg (by rw [hv]; simp)] at hV
    have GV := Lib.hid gv
    obtain ⟨fo, -⟩ := validS_parts hv
    have ff0 := fo.f0
    have ff1 := fo.f1
    clear gv hv fo
    by_cases hr : b < -137438953472 ∨ 137438953472 < b
    · rw [if_pos hr] at hV
      subst hV
      have hr2 : b < -137438953472 ∨ (¬ b < -137438953472 ∧ 137438953472 < b) := by omega
      clear hr
      rcases hr2 with h1 | ⟨h1, h2⟩ <;> (
        go_enter Try.func36, Try.ntmps36
        go_wp2_with fail
        refine (GV.out).mono ?_
        rintro e w2 ⟨rfl, b2⟩
        have hz := Z1.out.below b2 Z1.out.b.lt
        have F := fin0g hz hW (below_then B1.out b2 B1.out.size) 2
        obtain ⟨z0, z1, z2, f0, f1, f2, zl⟩ := hz.cells
        clear b2 hz k0 k1 k2
        go_wp2
        have q := F.out
        generalize ((w2.setCell ⟨W0.heap.size, 0, none⟩ (.int .i64 0)).setCell ⟨W0.heap.size, 1, none⟩ (.int .i64 0)).setCell ⟨W0.heap.size, 2, none⟩ (.slice none 0 0) = W3 at *
        obtain ⟨⟨⟨q0, q1, q2, -⟩, -, -, -, -⟩, q3⟩ := q
        exact bodyPost_ret (v := .tuple #[serA 0 0 none 0 0, .int .i64 2]) (by simp [results, Try.results36, go_sem, q0, q1, q2]) rfl q3)
    · rw [if_neg hr] at hV
      have h1 : ¬ b < -137438953472 := by omega
      have h2 : ¬ 137438953472 < b := by omega
      clear hr
      obtain ⟨F, hF⟩ : ∃ F, f + b = F := ⟨_, rfl⟩
      rw [hF] at hV
      have rF : IntKind.i64.wrap F = F := IntWalk.i64_in _ (by omega)
      go_enter Try.func36, Try.ntmps36
      go_wp2_with fail
      refine (GV.out).mono ?_
      rintro e w2 ⟨rfl, b2⟩
      have Z2 := Lib.hid (Z1.out.below b2 Z1.out.b.lt)
      have x2 := X1.out.below b2 X1.out.lt
      have I2 := Lib.hid (I1.out.below b2)
      have B2 := Lib.hid (below_then B1.out b2 B1.out.size)
      obtain ⟨p0, p1, p2, pl⟩ := x2.cells
      have hWs : W0.heap.size < w2.heap.size := Z2.out.b.lt
      clear b2 x2 k0 k1 k2 GV I1 Z1 X1 B1
      go_upto_region 5 with fail
      go_cut [6] (fun t wx => Kept w2 ⟨F, st, ds⟩ t wx)
      case first =>
        have IS := I2.out
        -- the empty slice first; the empty slice, the record; the record, the empty slice
        have ba : Below w2.heap.size w2 (w2.alloc (.cells #[] 3)).drew := below_drewN ((Below.refl w2.heap.size w2).alloc (Nat.le_refl _) _) 1
        have bb : Below w2.heap.size w2 ((w2.alloc (.cells #[] 3)).alloc (serO 0 0 none 0 0)).drew := below_drewN (((Below.refl w2.heap.size w2).alloc (Nat.le_refl _) _).alloc (by simp) _) 1
        have bc : Below w2.heap.size w2 ((w2.alloc (serO 0 0 none 0 0)).alloc (.cells #[] 3)).drew := below_drewN (((Below.refl w2.heap.size w2).alloc (Nat.le_refl _) _).alloc (by simp) _) 1
        have OA := Lib.hid ((Own.empty w2 w2.heap.size (Nat.le_refl _)).drewN 1)
        have OB := Lib.hid (((Own.empty w2 w2.heap.size (Nat.le_refl _)).alloc (serO 0 0 none 0 0)).drewN 1)
        have oc := (Own.empty (w2.alloc (serO 0 0 none 0 0)) w2.heap.size (by simp)).drewN 1
        rw [World.size_alloc] at oc
        have OC := Lib.hid oc
        clear oc
        have zb : ZBox ((w2.alloc (.cells #[] 3)).alloc (serO 0 0 none 0 0)).drew (w2.heap.size + 1) := by
          have := ZBox.made (w2.alloc (.cells #[] 3))
          rw [World.size_alloc] at this
          exact ⟨⟨this.b.c0, this.b.c1, this.b.c2, this.b.lt⟩, this.f⟩
        have zc : ZBox ((w2.alloc (serO 0 0 none 0 0)).alloc (.cells #[] 3)).drew w2.heap.size := by
          have h1 := ZBox.made w2
          have := h1.below ((Below.refl (w2.alloc (serO 0 0 none 0 0)).heap.size _).alloc (Nat.le_refl _) (.cells #[] 3)) h1.b.lt
          exact ⟨⟨this.b.c0, this.b.c1, this.b.c2, this.b.lt⟩, this.f⟩
        have IA := Lib.hid (IS.below ba)
        have IB := Lib.hid (IS.below bb)
        have IC := Lib.hid (IS.below bc)
        have BA := Lib.hid ba
        have BB := Lib.hid bb
        have BC := Lib.hid bc
        have ZB := Lib.hid zb
        have ZC := Lib.hid zc
        have KC : Hid (∀ w3, Below w2.heap.size w2 w3 → w3.cell? ⟨w.heap.size, 0, none⟩ = some (.int .i64 f) ∧ w3.cell? ⟨w.heap.size, 1, none⟩ = some (.int .i64 st) ∧ w3.cell? ⟨w.heap.size, 2, none⟩ = some (.slice A n c)) := Lib.hid fun w3 b =>
          ⟨(b.cell (p := ⟨w.heap.size, 0, none⟩) pl).trans p0, (b.cell (p := ⟨w.heap.size, 1, none⟩) pl).trans p1, (b.cell (p := ⟨w.heap.size, 2, none⟩) pl).trans p2⟩
        have KA := Lib.hid (KC.out _ ba)
        have KB := Lib.hid (KC.out _ bb)
        have KD := Lib.hid (KC.out _ bc)
        have hfn : n ≤ 17592186044416 := IS.few
        have HLN := Lib.hid IS.len
        have ne0 := World.new_ne w2 ⟨w.heap.size, 0, none⟩ p0
        have ne3 : ¬ w.heap.size = w2.heap.size := by omega
        have ne4 : ¬ w2.heap.size = w.heap.size := by omega
        have ne5 : ¬ w2.heap.size + 1 = w.heap.size := by omega
        have ne6 : ¬ w.heap.size = w2.heap.size + 1 := by omega
        have E1 : Hid (((w2.alloc (.cells #[] 3)).alloc (serO 0 0 none 0 0)).drew.heap.size = w2.heap.size + 1 + 1) := Lib.hid (by show ((w2.alloc (.cells #[] 3)).alloc (serO 0 0 none 0 0)).heap.size = _; simp)
        have E2 : Hid (((w2.alloc (serO 0 0 none 0 0)).alloc (.cells #[] 3)).drew.heap.size = w2.heap.size + 1 + 1) := Lib.hid (by show ((w2.alloc (serO 0 0 none 0 0)).alloc (.cells #[] 3)).heap.size = _; simp)
        clear ba bb bc zb zc IS hV
        go_region_held3 (fun w' => w'.cell? ⟨w.heap.size, 0, none⟩ = some (.int .i64 f) ∧ w'.cell? ⟨w.heap.size, 1, none⟩ = some (.int .i64 st) ∧ w'.cell? ⟨w.heap.size, 2, none⟩ = some (.slice A n c)) (first | exact KA.out | exact KB.out | exact KD.out | go_keep | exact KC.out _ (by assumption) | exact KC.out _ (Below.alloc (by assumption) (Below.size (by assumption)) _)) ((first
          | (refine step_append_intsG (w2.alloc (.cells #[] 3)).drew w2.heap.size (.slice (some ⟨w2.heap.size, 0, none⟩) 0 0) [] A n c ds rfl _ _ rfl rfl rfl OA.out BA.out.size IA.out (by rw [HLN.out]; simp; omega) ?_; intro v3 w3 o3 gr3; have bb := BA.out.trans (gr3.below OA.out BA.out.size); obtain ⟨A3, n3, c3, rfl, i3, g3⟩ := o3.ints)
          | (refine step_append_intsG ((w2.alloc (.cells #[] 3)).alloc (serO 0 0 none 0 0)).drew w2.heap.size (.slice (some ⟨w2.heap.size, 0, none⟩) 0 0) [] A n c ds rfl _ _ rfl rfl rfl OB.out BB.out.size IB.out (by rw [HLN.out]; simp; omega) ?_; intro v3 w3 o3 gr3; have bb := BB.out.trans (gr3.below OB.out BB.out.size); have zz := gr3.zbox ZB.out (by simp [Value.ownBlock]); have gb := gr3.o; obtain ⟨A3, n3, c3, rfl, i3, g3⟩ := o3.ints; obtain ⟨y0, y1, y2, y3, y4, y5, yl⟩ := zz.cells)
          | (refine step_append_intsG ((w2.alloc (serO 0 0 none 0 0)).alloc (.cells #[] 3)).drew w2.heap.size (.slice (some ⟨w2.heap.size + 1, 0, none⟩) 0 0) [] A n c ds rfl _ _ rfl rfl rfl OC.out BC.out.size IC.out (by rw [HLN.out]; simp; omega) ?_; intro v3 w3 o3 gr3; have bb := BC.out.trans (gr3.below OC.out BC.out.size); have zz := gr3.zbox ZC.out (by simp [Value.ownBlock]); have gb := gr3.o; obtain ⟨A3, n3, c3, rfl, i3, g3⟩ := o3.ints; obtain ⟨y0, y1, y2, y3, y4, y5, yl⟩ := zz.cells)))
        all_goals (go_wp2_with fail; go_meet)
        all_goals (first
          | exact kept_new (by assumption) i3 g3
          | exact kept_old zz (by omega) bb i3 (fun ad e => ⟨g3 ad e, by
              subst e
              rcases gb with h | ⟨k, h, hk⟩
              · simp [Value.ownBlock] at h; omega
              · simp only [Value.ownBlock, Option.some.injEq] at h
                first
                  | (have h9 := E1.out; omega)
                  | (have h9 := E2.out; omega)⟩))
      case rest =>
        obtain ⟨g, A3, n3, c3, rfl, k3, b3, g3⟩ := hcut
        rename World => w3
        have Z3 := Lib.hid (Z2.out.below b3 Z2.out.b.lt)
        have B3 := Lib.hid (below_then B2.out b3 B2.out.size)
        have K3 := Lib.hid k3
        have G3 : Hid (∀ ad, A3 = some ad → W0.heap.size < ad.block) := Lib.hid (fun ad e => Nat.lt_of_lt_of_le hWs (g3 ad e))
        obtain ⟨a0, a1, a2⟩ := k3.cells
        dsimp only at a0 a1 a2
        have gv := rValid_calls F st w3 k3.i
        clear k3 b3 g3 p0 p1 p2 pl Z2 B2 I2
        dsimp only at gv
        cases hv2 : validS F st ds
        · rw [if_pos hv2] at hV
          subst hV
          rw [hv2] at gv
          have GV2 := Lib.hid gv
          clear gv hv2
          go_wp2_with fail
          refine (GV2.out).mono ?_
          rintro e w4 ⟨rfl, b4⟩
          have hz := Z3.out.below b4 Z3.out.b.lt
          have F0 := fin0g hz hW (below_then B3.out b4 B3.out.size) 2
          obtain ⟨z0, z1, z2, f0, f1, f2, zl⟩ := hz.cells
          clear b4 hz a0 a1 a2
          go_wp2
          have q := F0.out
          generalize ((w4.setCell ⟨W0.heap.size, 0, none⟩ (.int .i64 0)).setCell ⟨W0.heap.size, 1, none⟩ (.int .i64 0)).setCell ⟨W0.heap.size, 2, none⟩ (.slice none 0 0) = W3 at *
          obtain ⟨⟨⟨q0, q1, q2, -⟩, -, -, -, -⟩, q3⟩ := q
          exact bodyPost_ret (v := .tuple #[serA 0 0 none 0 0, .int .i64 2]) (by simp [results, Try.results36, go_sem, q0, q1, q2]) rfl q3
        · rw [if_neg (by rw [hv2]; simp)] at hV
          subst hV
          rw [hv2] at gv
          have GV2 := Lib.hid gv
          clear gv hv2 a0 a1 a2
          obtain ⟨a0, a1, a2⟩ := K3.out.cells
          dsimp only at a0 a1 a2
          go_wp2_with fail
          refine (GV2.out).mono ?_
          rintro e w4 ⟨rfl, b4⟩
          have k4 := K3.out.below b4
          have hz := Z3.out.below b4 Z3.out.b.lt
          have F0 := finSg hz hW (below_then B3.out b4 B3.out.size) ⟨F, st, ds⟩ 0 k4.i G3.out
          obtain ⟨z0, z1, z2, f0, f1, f2, zl⟩ := hz.cells
          obtain ⟨a0, a1, a2⟩ := k4.cells
          dsimp only at F0 a0 a1 a2
          clear b4 hz k4
          go_wp2
          have q := F0.out
          generalize ((w4.setCell ⟨W0.heap.size, 0, none⟩ (.int .i64 F)).setCell ⟨W0.heap.size, 1, none⟩ (.int .i64 st)).setCell ⟨W0.heap.size, 2, none⟩ (.slice A3 n3 c3) = W3 at *
          obtain ⟨⟨⟨q0, q1, q2, -⟩, -, -, -, -⟩, q3⟩ := q
          exact bodyPost_ret (v := .tuple #[serA F st A3 n3 c3, .int .i64 0]) (by simp [results, Try.results36, go_sem, q0, q1, q2]) rfl q3
end Go.Proofs.Ytfhikdgdckfalaa
