/- Shift of the program. -/
import Derived.Test.YtfhikdgdckfalaaMB14
import Derived.Test.YtfhikdgdckfalaaMB18
import Derived.Deep.RegionHeld3
import Derived.Deep.DeepCutAuto
namespace Go.Proofs.Ytfhikdgdckfalaa
open Go.RowKit
set_option linter.unusedVariables false

def shiftV (f st : Int) (ds : List Int) (by_ : Int) : SerD × Int :=
  if validS f st ds = false then (zeroS, 1)
  else if by_ < -137438953472 ∨ 137438953472 < by_ then (zeroS, 2)
  else if validS (f + by_) st ds = false then (zeroS, 2)
  else (⟨f + by_, st, ds⟩, 0)
/-- A record's box, an empty record behind it. -/
theorem ser_box (f st : Int) (A : Option Addr) (n c : Nat) (w : World) : ∃ W0 W1, w.alloc (serO f st A n c) = W0 ∧ W0.alloc (serO 0 0 none 0 0) = W1 ∧ Below w.heap.size w W1 ∧ SBox W1 w.heap.size f st A n c ∧ ZBox W1 W0.heap.size ∧ w.heap.size < W0.heap.size :=
  ⟨_, _, rfl, rfl, ((Below.refl _ _).alloc (Nat.le_refl _) _).alloc (by simp) _, (SBox.made w f st A n c).alloc _, ZBox.made _, by simp⟩
set_option maxRecDepth 100000 in
set_option maxHeartbeats 8000000 in
theorem Shift_calls {A : Option Addr} {n c : Nat} {ds : List Int} (f st b : Int) (w : World) (h : Ints w A n c ds) :
    Calls Try.prog 35 #[serA f st A n c, .int .i64 b] w (RetSer (shiftV f st ds b) w) := by
  obtain ⟨W0, W1, hW0, hW1, hb1, x1, z1, hWW⟩ := ser_box f st A n c w
  have gv := gValid_calls f st W1 (h.below hb1)
  obtain ⟨V, hV⟩ : ∃ V, shiftV f st ds b = V := ⟨_, rfl⟩
  rw [hV]
  unfold shiftV at hV
  have X1 := Lib.hid x1
  have Z1 := Lib.hid z1
  have B1 := Lib.hid hb1
  have I1 := Lib.hid (h.below hb1)
  have hW := Nat.le_of_lt hWW
  obtain ⟨k0, k1, k2, kl⟩ := x1.cells
  clear h hb1 x1 z1
  cases hv : validS f st ds
  · rw [hv] at gv
    rw [if_pos hv] at hV
    subst hV
    have GV := Lib.hid gv
    clear gv hv
    go_enter Try.func35, Try.ntmps35
    go_wp2_with fail
    refine (GV.out).mono ?_
    rintro e w2 ⟨rfl, b2⟩
    have hz := Z1.out.below b2 Z1.out.b.lt
    have F := fin0g hz hW (below_then B1.out b2 B1.out.size) 1
    obtain ⟨z0, z1, z2, f0, f1, f2, zl⟩ := hz.cells
    clear b2 hz k0 k1 k2
    go_wp2
    have q := F.out
    generalize ((w2.setCell ⟨W0.heap.size, 0, none⟩ (.int .i64 0)).setCell ⟨W0.heap.size, 1, none⟩ (.int .i64 0)).setCell ⟨W0.heap.size, 2, none⟩ (.slice none 0 0) = W3 at *
    obtain ⟨⟨⟨q0, q1, q2, -⟩, -, -, -, -⟩, q3⟩ := q
    exact bodyPost_ret (v := .tuple #[serA 0 0 none 0 0, .int .i64 1]) (by simp [results, Try.results35, go_sem, q0, q1, q2]) rfl q3
  · rw [hv] at gv
    rw [if_neg (by rw [hv]; simp)] at hV
    have GV := Lib.hid gv
    obtain ⟨fo, -⟩ := validS_parts hv
    have ff0 := fo.f0
    have ff1 := fo.f1
    clear gv hv fo
    by_cases hr : b < -137438953472 ∨ 137438953472 < b
    · rw [if_pos hr] at hV
      subst hV
      have hr2 : b < -137438953472 ∨ (¬ b < -137438953472 ∧ 137438953472 < b) := by omega
      clear hr
      rcases hr2 with h1 | ⟨h1, h2⟩ <;> (
        go_enter Try.func35, Try.ntmps35
        go_wp2_with fail
        refine (GV.out).mono ?_
        rintro e w2 ⟨rfl, b2⟩
        have hz := Z1.out.below b2 Z1.out.b.lt
        have F := fin0g hz hW (below_then B1.out b2 B1.out.size) 2
        obtain ⟨z0, z1, z2, f0, f1, f2, zl⟩ := hz.cells
        clear b2 hz k0 k1 k2
        go_wp2
        have q := F.out
        generalize ((w2.setCell ⟨W0.heap.size, 0, none⟩ (.int .i64 0)).setCell ⟨W0.heap.size, 1, none⟩ (.int .i64 0)).setCell ⟨W0.heap.size, 2, none⟩ (.slice none 0 0) = W3 at *
        obtain ⟨⟨⟨q0, q1, q2, -⟩, -, -, -, -⟩, q3⟩ := q
        exact bodyPost_ret (v := .tuple #[serA 0 0 none 0 0, .int .i64 2]) (by simp [results, Try.results35, go_sem, q0, q1, q2]) rfl q3)
    · rw [if_neg hr] at hV
      have h1 : ¬ b < -137438953472 := by omega
      have h2 : ¬ 137438953472 < b := by omega
      clear hr
      obtain ⟨F, hF⟩ : ∃ F, f + b = F := ⟨_, rfl⟩
      rw [hF] at hV
      have rF : IntKind.i64.wrap F = F := IntWalk.i64_in _ (by omega)
      go_enter Try.func35, Try.ntmps35
      go_wp2_with fail
      refine (GV.out).mono ?_
      rintro e w2 ⟨rfl, b2⟩
      have Z2 := Lib.hid (Z1.out.below b2 Z1.out.b.lt)
      have x2 := X1.out.below b2 X1.out.lt
      have I2 := Lib.hid (I1.out.below b2)
      have B2 := Lib.hid (below_then B1.out b2 B1.out.size)
      obtain ⟨p0, p1, p2, pl⟩ := x2.cells
      have hWs : W0.heap.size < w2.heap.size := Z2.out.b.lt
      clear b2 x2 k0 k1 k2 GV I1 Z1 X1 B1
      go_upto_region 5 with fail
      go_cut [6] (fun t wx => Kept w2 ⟨F, st, ds⟩ t wx)
      case first =>
        have CB := Lib.hid (Clone_calls w2.drew (I2.out.drewN 1))
        have ba : Below w2.heap.size w2 (w2.alloc (serO 0 0 none 0 0)).drew := below_drewN ((Below.refl w2.heap.size w2).alloc (Nat.le_refl _) _) 1
        have CA := Lib.hid (Clone_calls (w2.alloc (serO 0 0 none 0 0)).drew (I2.out.below ba))
        have KA : Hid (∀ w3, Below (w2.alloc (serO 0 0 none 0 0)).drew.heap.size (w2.alloc (serO 0 0 none 0 0)).drew w3 → ZBox w3 w2.heap.size ∧ Below w2.heap.size w2 w3) := Lib.hid fun w3 b =>
          ⟨(ZBox.made w2).below (w' := w3) (B := (w2.alloc (serO 0 0 none 0 0)).heap.size) ⟨b.os, b.tape, b.output, b.size, b.block⟩ (ZBox.made w2).b.lt, below_then ba b ba.size⟩
        have KC : Hid (∀ w3, Below w2.heap.size w2 w3 → w3.cell? ⟨w.heap.size, 0, none⟩ = some (.int .i64 f) ∧ w3.cell? ⟨w.heap.size, 1, none⟩ = some (.int .i64 st) ∧ w3.cell? ⟨w.heap.size, 2, none⟩ = some (.slice A n c)) := Lib.hid fun w3 b =>
          ⟨(b.cell (p := ⟨w.heap.size, 0, none⟩) pl).trans p0, (b.cell (p := ⟨w.heap.size, 1, none⟩) pl).trans p1, (b.cell (p := ⟨w.heap.size, 2, none⟩) pl).trans p2⟩
        have KS : Hid (∀ w3 u v x, Below w2.heap.size w2 w3 → (((w3.setCell ⟨w2.heap.size, 0, none⟩ u).setCell ⟨w2.heap.size, 1, none⟩ v).setCell ⟨w2.heap.size, 2, none⟩ x).cell? ⟨w.heap.size, 0, none⟩ = some (.int .i64 f) ∧ (((w3.setCell ⟨w2.heap.size, 0, none⟩ u).setCell ⟨w2.heap.size, 1, none⟩ v).setCell ⟨w2.heap.size, 2, none⟩ x).cell? ⟨w.heap.size, 1, none⟩ = some (.int .i64 st) ∧ (((w3.setCell ⟨w2.heap.size, 0, none⟩ u).setCell ⟨w2.heap.size, 1, none⟩ v).setCell ⟨w2.heap.size, 2, none⟩ x).cell? ⟨w.heap.size, 2, none⟩ = some (.slice A n c)) := Lib.hid fun w3 u v x b => KC.out _ (((b.setCell (p := ⟨w2.heap.size, 0, none⟩) (Nat.le_refl _) u).setCell (p := ⟨w2.heap.size, 1, none⟩) (Nat.le_refl _) v).setCell (p := ⟨w2.heap.size, 2, none⟩) (Nat.le_refl _) x)
        have HBA := Lib.hid ba
        have ne0 := World.new_ne w2 ⟨w.heap.size, 0, none⟩ p0
        have ne1 := World.new_ne w2 ⟨w.heap.size, 1, none⟩ p1
        have ne2 := World.new_ne w2 ⟨w.heap.size, 2, none⟩ p2
        have ne3 : ¬ w.heap.size = w2.heap.size := by omega
        have ne4 : ¬ w2.heap.size = w.heap.size := by omega
        clear ba hV
        go_region_held3 (fun w' => w'.cell? ⟨w.heap.size, 0, none⟩ = some (.int .i64 f) ∧ w'.cell? ⟨w.heap.size, 1, none⟩ = some (.int .i64 st) ∧ w'.cell? ⟨w.heap.size, 2, none⟩ = some (.slice A n c)) (first | go_keep | exact KC.out _ (by assumption) | exact KC.out _ (Below.alloc (by assumption) (Below.size (by assumption)) _)) ((first
          | (go_at_call 60; (with_reducible refine CA.out.mono ?_); rintro e w3 ⟨v3, rfl, o3, b3⟩; obtain ⟨A3, n3, c3, rfl, i3, g3⟩ := o3.ints; obtain ⟨zb, bb⟩ := KA.out _ b3; obtain ⟨y0, y1, y2, y3, y4, y5, yl⟩ := zb.cells)
          | (go_at_call 60; (with_reducible refine CB.out.mono ?_); rintro e w3 ⟨v3, rfl, o3, b3⟩; obtain ⟨A3, n3, c3, rfl, i3, g3⟩ := o3.ints; have bb := below_then (below_drewN (Below.refl w2.heap.size w2) 1) b3 (Nat.le_refl _))))
        all_goals (go_wp2_with fail; go_meet)
        all_goals (first
          | exact kept_new (by assumption) (by assumption) (by assumption)
          | exact kept_old (by assumption) (Nat.le_refl _) (by assumption) (by assumption) (fun ad e => by
              have := g3 ad e
              have e2 : (w2.alloc (serO 0 0 none 0 0)).drew.heap.size = w2.heap.size + 1 := World.size_alloc _ _
              omega))
      case rest =>
        obtain ⟨g, A3, n3, c3, rfl, k3, b3, g3⟩ := hcut
        rename World => w3
        have Z3 := Lib.hid (Z2.out.below b3 Z2.out.b.lt)
        have B3 := Lib.hid (below_then B2.out b3 B2.out.size)
        have K3 := Lib.hid k3
        have G3 : Hid (∀ ad, A3 = some ad → W0.heap.size < ad.block) := Lib.hid (fun ad e => Nat.lt_of_lt_of_le hWs (g3 ad e))
        obtain ⟨a0, a1, a2⟩ := k3.cells
        dsimp only at a0 a1 a2
        have gv := gValid_calls F st w3 k3.i
        clear k3 b3 g3 p0 p1 p2 pl Z2 B2 I2
        dsimp only at gv
        cases hv2 : validS F st ds
        · rw [if_pos hv2] at hV
          subst hV
          rw [hv2] at gv
          have GV2 := Lib.hid gv
          clear gv hv2
          go_wp2_with fail
          refine (GV2.out).mono ?_
          rintro e w4 ⟨rfl, b4⟩
          have hz := Z3.out.below b4 Z3.out.b.lt
          have F0 := fin0g hz hW (below_then B3.out b4 B3.out.size) 2
          obtain ⟨z0, z1, z2, f0, f1, f2, zl⟩ := hz.cells
          clear b4 hz a0 a1 a2
          go_wp2
          have q := F0.out
          generalize ((w4.setCell ⟨W0.heap.size, 0, none⟩ (.int .i64 0)).setCell ⟨W0.heap.size, 1, none⟩ (.int .i64 0)).setCell ⟨W0.heap.size, 2, none⟩ (.slice none 0 0) = W3 at *
          obtain ⟨⟨⟨q0, q1, q2, -⟩, -, -, -, -⟩, q3⟩ := q
          exact bodyPost_ret (v := .tuple #[serA 0 0 none 0 0, .int .i64 2]) (by simp [results, Try.results35, go_sem, q0, q1, q2]) rfl q3
        · rw [if_neg (by rw [hv2]; simp)] at hV
          subst hV
          rw [hv2] at gv
          have GV2 := Lib.hid gv
          clear gv hv2 a0 a1 a2
          obtain ⟨a0, a1, a2⟩ := K3.out.cells
          dsimp only at a0 a1 a2
          go_wp2_with fail
          refine (GV2.out).mono ?_
          rintro e w4 ⟨rfl, b4⟩
          have k4 := K3.out.below b4
          have hz := Z3.out.below b4 Z3.out.b.lt
          have F0 := finSg hz hW (below_then B3.out b4 B3.out.size) ⟨F, st, ds⟩ 0 k4.i G3.out
          obtain ⟨z0, z1, z2, f0, f1, f2, zl⟩ := hz.cells
          obtain ⟨a0, a1, a2⟩ := k4.cells
          dsimp only at F0 a0 a1 a2
          clear b4 hz k4
          go_wp2
          have q := F0.out
          generalize ((w4.setCell ⟨W0.heap.size, 0, none⟩ (.int .i64 F)).setCell ⟨W0.heap.size, 1, none⟩ (.int .i64 st)).setCell ⟨W0.heap.size, 2, none⟩ (.slice A3 n3 c3) = W3 at *
          obtain ⟨⟨⟨q0, q1, q2, -⟩, -, -, -, -⟩, q3⟩ := q
          exact bodyPost_ret (v := .tuple #[serA F st A3 n3 c3, .int .i64 0]) (by simp [results, Try.results35, go_sem, q0, q1, q2]) rfl q3
end Go.Proofs.Ytfhikdgdckfalaa
