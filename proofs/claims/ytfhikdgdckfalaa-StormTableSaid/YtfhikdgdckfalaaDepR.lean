/- Depth of the reference: the span of a table's depth. -/
import Derived.Test.YtfhikdgdckfalaaFrcR
import Derived.Test.YtfhikdgdckfalaaMB08
import Derived.Shelf.RegionOpenPlain
namespace Go.Proofs.Ytfhikdgdckfalaa
open Go.RowKit
set_option linter.unusedVariables false

theorem rowN_congr {l : List Int} {x : Int} {r r' : Nat → Int} (ha : Asc l) (hb : inEnds l x) (h : ∀ j, j < l.length → r j = r' j) : rowN l x r = rowN l x r' := by
  unfold rowN
  have := hb.1
  by_cases h1 : l.length = 1
  · rw [if_pos h1, if_pos h1, h 0 (by omega)]
  · have bd := plcN_bd ha hb (by omega)
    rw [if_neg h1, if_neg h1, h _ (by omega), h _ bd.1]

set_option maxRecDepth 100000 in
set_option maxHeartbeats 4000000 in
theorem DepthR_calls {A0 A1 A2 : Option Addr} {n0 c0 n1 c1 n2 c2 : Nat} {ds ps : List Int} {rows : List (List Int)} (x y : Int) (w : World) (h0 : Ints w A0 n0 c0 ds) (h1 : Ints w A1 n1 c1 ps) (h2 : Tab w A2 n2 c2 rows) (ok : TOk ds ps rows) (hx : inEnds ds x) (hy : inEnds ps y) :
    Calls Try.prog 31 #[tabA A0 n0 c0 A1 n1 c1 A2 n2 c2, .int .i64 x, .int .i64 y] w fun e w' => (∃ hi : Int, e = .returned (.agg #[.int .i64 (loV ds ps rows y x : Nat), .int .i64 hi])) ∧ Below w.heap.size w w' := by
  obtain ⟨W0, hW0⟩ : ∃ W0, (w.alloc (tabO A0 n0 c0 A1 n1 c1 A2 n2 c2)).alloc (.cells #[.int .i64 0, .int .i64 0] 54) = W0 := ⟨_, rfl⟩
  have hb1 : Below w.heap.size w (w.alloc (tabO A0 n0 c0 A1 n1 c1 A2 n2 c2)) := (Below.refl _ _).alloc (Nat.le_refl _) _
  have hb0 : Below w.heap.size w W0 := by rw [← hW0]; exact hb1.alloc hb1.size _
  have x1 : HBox (w.alloc (tabO A0 n0 c0 A1 n1 c1 A2 n2 c2)) w.heap.size (.slice A0 n0 c0) (.slice A1 n1 c1) (.slice A2 n2 c2) := HBox.made _ _ _ _ _
  have x0 : HBox W0 w.heap.size (.slice A0 n0 c0) (.slice A1 n1 c1) (.slice A2 n2 c2) := by rw [← hW0]; exact x1.below ((Below.refl _ _).alloc (Nat.le_refl _) _) x1.lt
  have t0 : TBox W0 (w.heap.size + 1) (.int .i64 0) (.int .i64 0) := by
    have := TBox.made (w.alloc (tabO A0 n0 c0 A1 n1 c1 A2 n2 c2)) (.int .i64 0) (.int .i64 0) 54
    rw [hW0, World.size_alloc] at this
    exact this
  have T0 := Lib.hid t0
  obtain ⟨k0, k1, k2⟩ : W0.cell? ⟨w.heap.size, 0, none⟩ = some (.slice A0 n0 c0) ∧ W0.cell? ⟨w.heap.size, 1, none⟩ = some (.slice A1 n1 c1) ∧ W0.cell? ⟨w.heap.size, 2, none⟩ = some (.slice A2 n2 c2) := ⟨x0.c0, x0.c1, x0.c2⟩
  have F1 := Fraction_calls x y W0 (h0.below hb0) (h1.below hb0) (h2.below hb0) ok hx hy
  have rx := rowN_bd (m := 2592000) (M := 0) (r := fun j => 0) ok.da hx ok.dr (by omega) (fun j hj => by omega)
  have ry := rowN_bd (m := 10000) (M := 2592000 * 4194304) (r := fun k => if k < ps.length then rowN ds x fun j => el (tl rows k) j else 0) ok.pa hy ok.pr (by omega) (fun k hk => by
    simp only [if_pos hk]
    have hk' : k < rows.length := by rw [ok.rl]; exact hk
    have hc := ok.cl _ (tl_mem hk')
    have h := rowN_bd (m := 2592000) (M := 4194304) (r := fun j => el (tl rows k) j) ok.da hx ok.dr (by omega) (fun j hj => hc.2 _ (el_mem (by rw [hc.1]; exact hj)))
    exact ⟨h.1, Int.le_trans h.2.1 (Int.mul_le_mul_of_nonneg_right h.2.2.2 (by omega))⟩)
  have re : (rowN ps y fun k => if k < ps.length then rowN ds x fun j => el (tl rows k) j else 0) = frcN ds ps rows x y := by
    exact rowN_congr ok.pa hy fun k hk => by rw [if_pos hk]
  rw [re] at ry
  have fl := frc_lo ok hx hy
  have fd : frcD ds ps x y = rowD ds x * rowD ps y := rfl
  have d1 : 1 ≤ frcD ds ps x y := by
    have : 0 < rowD ds x * rowD ps y := Int.mul_pos (by omega) (by omega)
    rw [fd]; omega
  have d2 : frcD ds ps x y ≤ 2592000 * 10000 := by
    rw [fd]; exact Int.mul_le_mul (by omega) (by omega) (by omega) (by omega)
  have n2 : frcN ds ps rows x y ≤ 10000 * (2592000 * 4194304) := Int.le_trans ry.2.1 (Int.mul_le_mul_of_nonneg_right ry.2.2.2 (by omega))
  have n1 := ry.1
  generalize frcN ds ps rows x y = Nn at *
  generalize frcD ds ps x y = D at *
  generalize loV ds ps rows y x = L at *
  obtain ⟨Hh, hH⟩ : ∃ Hh, (Nn + D - 1).tdiv D = Hh := ⟨_, rfl⟩
  have q1 : Nn.tdiv D = (L : Int) := by rw [Int.tdiv_eq_ediv_of_nonneg n1, fl]
  have bL : (L : Int) ≤ 10000 * (2592000 * 4194304) := by rw [← fl]; exact Int.le_trans (Int.ediv_le_self _ n1) n2
  have bH : 0 ≤ Hh ∧ Hh ≤ 20000 * (2592000 * 4194304) := by
    rw [Int.tdiv_eq_ediv_of_nonneg (by omega)] at hH
    rw [← hH]
    exact ⟨Int.ediv_nonneg (by omega) (by omega), Int.le_trans (Int.ediv_le_self _ (by omega)) (by omega)⟩
  obtain ⟨bH0, bH1⟩ := bH
  obtain ⟨E, hE⟩ : ∃ E, Nn + D = E := ⟨_, rfl⟩
  rw [hE] at hH
  obtain ⟨G, hG⟩ : ∃ G, E - 1 = G := ⟨_, rfl⟩
  rw [hG] at hH
  have wE : IntKind.i64.wrap E = E := IntWalk.i64_in _ (by omega)
  have wG : IntKind.i64.wrap G = G := IntWalk.i64_in _ (by omega)
  have wL : IntKind.i64.wrap (L : Int) = (L : Int) := IntWalk.i64_in _ (by omega)
  have wH : IntKind.i64.wrap Hh = Hh := IntWalk.i64_in _ (by omega)
  have z1 : ¬ D = 0 := by omega
  have z2 : (D == 0) = false := by simp; omega
  have z3 : (D == -1) = false := by simp; omega
  have F := Lib.hid F1
  have B0 := Lib.hid hb0
  clear h0 h1 h2 hb1 hb0 x0 x1 t0 F1 rx ry re fl fd ok hx hy n1 n2 d1 d2 bL bH0 bH1
  have mixed : Try.prog.follows Departure.mixedOrders = true := by kernel_rfl
  go_enter Try.func31, Try.ntmps31
  go_wp2_with fail
  refine (F.out).mono ?_
  rintro e w1 ⟨rfl, b1⟩
  have B1 := Lib.hid (below_then B0.out b1 B0.out.size)
  have t3 := T0.out.below b1 T0.out.lt
  have HBW := Lib.hid (put2_below (g := w.heap.size + 1) (below_then B0.out b1 B0.out.size) (by omega) (.int .i64 (L : Int)) (.int .i64 Hh))
  have Q := Lib.hid (t3.put (.int .i64 (L : Int)) (.int .i64 Hh))
  obtain ⟨c0, c1, f0, f1, gl⟩ := t3.parts
  clear b1 t3 k0 k1 k2
  go_wp2
  go_big_region_o
  go_wp2
  have hbw := HBW.out
  have q := Q.out
  generalize (w1.setCell ⟨w.heap.size + 1, 0, none⟩ (.int .i64 (L : Int))).setCell ⟨w.heap.size + 1, 1, none⟩ (.int .i64 Hh) = W3 at *
  obtain ⟨q0, q1, -, -, -⟩ := q
  exact bodyPost_ret (v := .agg #[.int .i64 (L : Int), .int .i64 Hh]) (by simp [results, Try.results31, go_sem, q0, q1]) rfl ⟨⟨Hh, rfl⟩, hbw.drew⟩
end Go.Proofs.Ytfhikdgdckfalaa
