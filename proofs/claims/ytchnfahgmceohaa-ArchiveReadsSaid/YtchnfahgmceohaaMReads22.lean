/- gauge.Window of the program; Check. -/
import Derived.Test.YtchnfahgmceohaaMReads21
import Derived.Deep.RegionHeld3

namespace Go.Proofs.Ytchnfahgmceohaa
open Go.RowKit
set_option linter.unusedVariables false

def winV (f st : Int) (ds : List Int) (a b : Int) : SerD × Int :=
  if validS f st ds = false then (zeroS, 1)
  else if a < 0 ∨ b < a ∨ (ds.length : Int) < b then (zeroS, 2)
  else (⟨f + st * a, st, (ds.drop a.toNat).take (b - a).toNat⟩, 0)

set_option maxRecDepth 100000 in
set_option maxHeartbeats 4000000 in
theorem Window_calls {A : Option Addr} {n c : Nat} {ds : List Int} (f st a b : Int) (w : World) (h : Ints w A n c ds) (ha : -9223372036854775808 ≤ a ∧ a ≤ 9223372036854775807) (hb : -9223372036854775808 ≤ b ∧ b ≤ 9223372036854775807) :
    Calls Try.prog 34 #[serA f st A n c, .int .i64 a, .int .i64 b] w (RetSer (winV f st ds a b) w) := by
  have hcap := h.cap
  have hmax := h.max
  obtain ⟨W0, hW0⟩ : ∃ W0, (w.alloc (serO f st A n c)).alloc (serO 0 0 none 0 0) = W0 := ⟨_, rfl⟩
  have hb0 : Below w.heap.size w W0 := by rw [← hW0]; exact ((Below.refl _ _).alloc (Nat.le_refl _) _).alloc (by simp) _
  have hX0 : SBox W0 w.heap.size f st A n c := by rw [← hW0]; exact (SBox.made w f st A n c).alloc _
  have hZ0 : ZBox W0 (w.heap.size + 1) := by
    rw [← hW0]
    have e : (w.alloc (serO f st A n c)).heap.size = w.heap.size + 1 := by simp
    rw [← e]
    exact ⟨SBox.made _ 0 0 none 0 0, fun i => World.frozen?_alloc_new _ _ _ _⟩
  have gv := gValid_calls f st W0 (h.below hb0)
  have H0 := Lib.hid (h.below hb0)
  have X0 := Lib.hid hX0
  have Z0 := Lib.hid hZ0
  have B0 := Lib.hid hb0
  have hlen := h.len
  obtain ⟨V, hV⟩ : ∃ V, winV f st ds a b = V := ⟨_, rfl⟩
  rw [hV]
  unfold winV at hV
  obtain ⟨v, hv⟩ : ∃ v, validS f st ds = v := ⟨_, rfl⟩
  rw [hv] at gv hV
  obtain ⟨c0, c1, c2, cl⟩ : W0.cell? ⟨w.heap.size, 0, none⟩ = some (.int .i64 f) ∧ W0.cell? ⟨w.heap.size, 1, none⟩ = some (.int .i64 st) ∧ W0.cell? ⟨w.heap.size, 2, none⟩ = some (.slice A n c) ∧ w.heap.size < W0.heap.size := ⟨hX0.c0, hX0.c1, hX0.c2, hX0.lt⟩
  have HW0 := Lib.hid hW0
  rw [← hW0] at gv c0 c1 c2
  have GV := Lib.hid gv
  clear gv hX0 hZ0 hb0 h hW0 cl
  cases v
  · rw [if_pos rfl] at hV
    subst hV
    clear hv hlen
    go_enter Try.func34, Try.ntmps34
    go_wp2_with fail
    refine (GV.out).mono ?_
    rintro e w1 ⟨rfl, b1⟩
    rw [HW0.out] at b1
    obtain ⟨⟨z0, z1, z2, zl⟩, zf⟩ : ZBox w1 (w.heap.size + 1) := ⟨Z0.out.b.below b1 Z0.out.b.lt, fun i => (b1.frozen (p := ⟨w.heap.size + 1, i, none⟩) Z0.out.b.lt).trans (Z0.out.f i)⟩
    have f0 := zf 0
    have f1 := zf 1
    have f2 := zf 2
    have hB := below_then B0.out b1 B0.out.size
    have q := stored3 (.int .i64 0) (.int .i64 0) (.slice none 0 0) z0 z1 z2
    have hbw := ((hB.setCell (p := ⟨w.heap.size + 1, 0, none⟩) (Nat.le_succ _) (.int .i64 0)).setCell (p := ⟨w.heap.size + 1, 1, none⟩) (Nat.le_succ _) (.int .i64 0)).setCell (p := ⟨w.heap.size + 1, 2, none⟩) (Nat.le_succ _) (.slice none 0 0)
    have Q := Lib.hid q
    have HBW := Lib.hid hbw
    clear q hbw hB b1 zf
    go_wp2
    have q := Q.out
    have hbw := HBW.out
    generalize ((w1.setCell ⟨w.heap.size + 1, 0, none⟩ (.int .i64 0)).setCell ⟨w.heap.size + 1, 1, none⟩ (.int .i64 0)).setCell ⟨w.heap.size + 1, 2, none⟩ (.slice none 0 0) = W3 at *
    obtain ⟨q0, q1, q2⟩ := q
    refine bodyPost_ret (v := .tuple #[serA 0 0 none 0 0, .int .i64 1]) (by simp [results, Try.results34, go_sem, q0, q1, q2]) rfl ?_
    exact ⟨none, 0, 0, rfl, Ints.nil _, hbw, fun ad e => by cases e⟩
  · rw [if_neg (by simp)] at hV
    obtain ⟨hfr, hdp⟩ := validS_parts hv
    have f0' := hfr.f0
    have f1' := hfr.f1
    have s0' := hfr.s0
    have s1' := hfr.s1
    have n1' := hfr.n1
    have e0' := hfr.e0
    have e1' := hfr.e1
    rw [hlen] at hV n1' e0' e1'
    clear hfr hdp hv
    by_cases hbad : a < 0 ∨ b < a ∨ (n : Int) < b
    · rw [if_pos hbad] at hV
      subst hV
      have hbad2 : a < 0 ∨ (¬ a < 0 ∧ b < a) ∨ (¬ a < 0 ∧ ¬ b < a ∧ (n : Int) < b) := by omega
      clear hbad hlen e0' e1'
      rcases hbad2 with h1 | ⟨h1, h2⟩ | ⟨h1, h2, h3⟩ <;> (
        go_enter Try.func34, Try.ntmps34
        go_wp2_with fail
        refine (GV.out).mono ?_
        rintro e w1 ⟨rfl, b1⟩
        rw [HW0.out] at b1
        obtain ⟨x0, x1, x2, xl⟩ : SBox w1 w.heap.size f st A n c := X0.out.below b1 X0.out.lt
        obtain ⟨⟨z0, z1, z2, zl⟩, zf⟩ : ZBox w1 (w.heap.size + 1) := ⟨Z0.out.b.below b1 Z0.out.b.lt, fun i => (b1.frozen (p := ⟨w.heap.size + 1, i, none⟩) Z0.out.b.lt).trans (Z0.out.f i)⟩
        have f0 := zf 0
        have f1 := zf 1
        have f2 := zf 2
        have hB := below_then B0.out b1 B0.out.size
        have q := stored3 (.int .i64 0) (.int .i64 0) (.slice none 0 0) z0 z1 z2
        have hbw := ((hB.setCell (p := ⟨w.heap.size + 1, 0, none⟩) (Nat.le_succ _) (.int .i64 0)).setCell (p := ⟨w.heap.size + 1, 1, none⟩) (Nat.le_succ _) (.int .i64 0)).setCell (p := ⟨w.heap.size + 1, 2, none⟩) (Nat.le_succ _) (.slice none 0 0)
        have Q := Lib.hid q
        have HBW := Lib.hid hbw
        clear q hbw hB b1 zf
        go_wp2
        have q := Q.out
        have hbw := HBW.out
        generalize ((w1.setCell ⟨w.heap.size + 1, 0, none⟩ (.int .i64 0)).setCell ⟨w.heap.size + 1, 1, none⟩ (.int .i64 0)).setCell ⟨w.heap.size + 1, 2, none⟩ (.slice none 0 0) = W3 at *
        obtain ⟨q0, q1, q2⟩ := q
        refine bodyPost_ret (v := .tuple #[serA 0 0 none 0 0, .int .i64 2]) (by simp [results, Try.results34, go_sem, q0, q1, q2]) rfl ?_
        exact ⟨none, 0, 0, rfl, Ints.nil _, hbw, fun ad e => by cases e⟩)
    · rw [if_neg hbad] at hV
      obtain ⟨x, hx⟩ := Int.eq_ofNat_of_zero_le (show 0 ≤ a by omega)
      obtain ⟨y, hy⟩ := Int.eq_ofNat_of_zero_le (show 0 ≤ b by omega)
      subst hx hy
      have hxy : x ≤ y := by omega
      have hyn : y ≤ n := by omega
      have hxn : x ≤ n := by omega
      have et : (((y : Int) - (x : Int)).toNat) = y - x := by omega
      rw [Int.toNat_natCast, et] at hV
      have hm0 : 0 ≤ st * (x : Int) := Int.mul_nonneg (by omega) (by omega)
      have hm1 : st * (x : Int) ≤ 86400 * 10000 := Int.mul_le_mul (by omega) (by omega) (by omega) (by omega)
      have hI := ((H0.out.drop hxn).take (k := y - x) (by omega))
      obtain ⟨A', c', hcase⟩ : ∃ A' c', (c = x ∧ n = x ∧ y = x ∧ A = A' ∧ c' = 0) ∨ (¬ c = x ∧ ∃ ad, A = some ad ∧ A' = some (ad.add x) ∧ c' = c - x) := by
        by_cases hcx : c = x
        · exact ⟨A, 0, .inl ⟨hcx, by omega, by omega, rfl, rfl⟩⟩
        · cases A with
          | none => have := H0.out.nl rfl; omega
          | some ad => exact ⟨_, _, .inr ⟨hcx, ad, rfl, rfl, rfl⟩⟩
      have hI' : Ints W0 A' (y - x) c' ((ds.drop x).take (y - x)) := by
        rcases hcase with ⟨h, -, -, rfl, rfl⟩ | ⟨h, ad, rfl, rfl, rfl⟩
        · rw [if_pos h, show c - x = 0 by omega] at hI; exact hI
        · rw [if_neg h] at hI; exact hI
      have HI := Lib.hid hI'
      have HV := Lib.hid hV
      clear hI hI' hV hlen hbad et
      have hMb : -68719476736 ≤ f + st * (x : Int) ∧ f + st * (x : Int) ≤ 68719476736 + 864000000 := by omega
      obtain ⟨M, hM⟩ : ∃ M, st * (x : Int) = M := ⟨_, rfl⟩
      obtain ⟨F, hF⟩ : ∃ F, f + M = F := ⟨_, rfl⟩
      rw [hM] at hm0 hm1 hMb
      rw [hF] at hMb
      obtain ⟨hF0, hF1⟩ := hMb
      have hVF : Hid (V = (⟨F, st, (ds.drop x).take (y - x)⟩, 0)) := Lib.hid (by rw [← HV.out, hM, hF])
      clear HV f0' f1' s0' s1' n1' e0' e1'
      have em : IntKind.i64.wrap M = M := IntWalk.i64_in _ (by omega)
      have ef : IntKind.i64.wrap F = F := IntWalk.i64_in _ (by omega)
      rcases hcase with ⟨rfl, rfl, rfl, rfl, rfl⟩ | ⟨hck, ad, rfl, rfl, rfl⟩
      · have hi0 := HI.out
        generalize (ds.drop y).take (y - y) = L at *
        rw [Nat.sub_self] at hi0
        have HI0 := Lib.hid hi0
        clear hi0
        go_enter Try.func34, Try.ntmps34
        go_wp2_with fail
        refine (GV.out).mono ?_
        rintro e w1 ⟨rfl, b1⟩
        rw [HW0.out] at b1
        have cl := Clone_calls w1.drew ((HI0.out.below b1).drewN 1)
        obtain ⟨x0, x1, x2, xl⟩ : SBox w1 w.heap.size f st A y y := X0.out.below b1 X0.out.lt
        obtain ⟨⟨z0, z1, z2, zl⟩, zf⟩ : ZBox w1 (w.heap.size + 1) := ⟨Z0.out.b.below b1 Z0.out.b.lt, fun i => (b1.frozen (p := ⟨w.heap.size + 1, i, none⟩) Z0.out.b.lt).trans (Z0.out.f i)⟩
        have f0 := zf 0
        have f1 := zf 1
        have f2 := zf 2
        have HB := Lib.hid (below_then B0.out b1 B0.out.size)
        have hk : ∀ w3, Below w1.drew.heap.size w1.drew w3 → w3.cell? ⟨w.heap.size, 0, none⟩ = some (.int .i64 f) ∧ w3.cell? ⟨w.heap.size, 1, none⟩ = some (.int .i64 st) ∧ w3.cell? ⟨w.heap.size, 2, none⟩ = some (.slice A y y) ∧ w3.frozen? ⟨w.heap.size + 1, 0, none⟩ = false ∧ w3.frozen? ⟨w.heap.size + 1, 1, none⟩ = false ∧ w3.frozen? ⟨w.heap.size + 1, 2, none⟩ = false := fun w3 b =>
          ⟨(b.cell (p := ⟨w.heap.size, 0, none⟩) xl).trans x0, (b.cell (p := ⟨w.heap.size, 1, none⟩) xl).trans x1, (b.cell (p := ⟨w.heap.size, 2, none⟩) xl).trans x2, (b.frozen (p := ⟨w.heap.size + 1, 0, none⟩) zl).trans f0, (b.frozen (p := ⟨w.heap.size + 1, 1, none⟩) zl).trans f1, (b.frozen (p := ⟨w.heap.size + 1, 2, none⟩) zl).trans f2⟩
        have HK := Lib.hid hk
        have hz : ∀ w3, Below w1.drew.heap.size w1.drew w3 → w3.cell? ⟨w.heap.size + 1, 0, none⟩ = some (.int .i64 0) ∧ w3.cell? ⟨w.heap.size + 1, 1, none⟩ = some (.int .i64 0) ∧ w3.cell? ⟨w.heap.size + 1, 2, none⟩ = some (.slice none 0 0) := fun w3 b => ⟨(b.cell (p := ⟨w.heap.size + 1, 0, none⟩) zl).trans z0, (b.cell (p := ⟨w.heap.size + 1, 1, none⟩) zl).trans z1, (b.cell (p := ⟨w.heap.size + 1, 2, none⟩) zl).trans z2⟩
        have HZ := Lib.hid hz
        have CL := Lib.hid cl
        clear b1 cl zf hk hz
        have zy : (0 : Int) ≤ (y : Int) := by omega
        go_wp2
        go_region_held3 (fun w' => w'.cell? ⟨w.heap.size, 0, none⟩ = some (.int .i64 f) ∧ w'.cell? ⟨w.heap.size, 1, none⟩ = some (.int .i64 st) ∧ w'.cell? ⟨w.heap.size, 2, none⟩ = some (.slice A y y) ∧ w'.frozen? ⟨w.heap.size + 1, 0, none⟩ = false ∧ w'.frozen? ⟨w.heap.size + 1, 1, none⟩ = false ∧ w'.frozen? ⟨w.heap.size + 1, 2, none⟩ = false) (first | go_keep | exact HK.out _ (by assumption)) ((go_at_call 55; (with_reducible refine CL.out.mono ?_); rintro e w3 ⟨v3, rfl, o3, b3⟩; obtain ⟨A3, n3, c3, rfl, i3, g3⟩ := o3.ints; obtain ⟨y0, y1, y2⟩ := HZ.out _ b3; have O3 := Lib.hid o3; clear o3))
        have q := stored3 (.int .i64 F) (.int .i64 st) (.slice A3 n3 c3) y0 y1 y2
        have hB3 := below_then HB.out (below_then (below_drewN (Below.refl w1.heap.size w1) 1) b3 (Nat.le_refl _)) HB.out.size
        have hbw := ((hB3.setCell (p := ⟨w.heap.size + 1, 0, none⟩) (Nat.le_succ _) (.int .i64 F)).setCell (p := ⟨w.heap.size + 1, 1, none⟩) (Nat.le_succ _) (.int .i64 st)).setCell (p := ⟨w.heap.size + 1, 2, none⟩) (Nat.le_succ _) (.slice A3 n3 c3)
        have g4 : ∀ ad, A3 = some ad → w1.heap.size ≤ ad.block := g3
        have hi6 := ((i3.far (p := ⟨w.heap.size + 1, 0, none⟩) (fun ad e => by have := g4 ad e; show ad.block ≠ w.heap.size + 1; omega) (.int .i64 F)).far (p := ⟨w.heap.size + 1, 1, none⟩) (fun ad e => by have := g4 ad e; show ad.block ≠ w.heap.size + 1; omega) (.int .i64 st)).far (p := ⟨w.heap.size + 1, 2, none⟩) (fun ad e => by have := g4 ad e; show ad.block ≠ w.heap.size + 1; omega) (.slice A3 n3 c3)
        have Q := Lib.hid q
        have HBW := Lib.hid hbw
        have HI6 := Lib.hid hi6
        clear q hbw hB3 hi6
        go_wp2
        have q := Q.out
        have hbw := HBW.out
        have hi6 := HI6.out
        generalize ((w3.setCell ⟨w.heap.size + 1, 0, none⟩ (.int .i64 F)).setCell ⟨w.heap.size + 1, 1, none⟩ (.int .i64 st)).setCell ⟨w.heap.size + 1, 2, none⟩ (.slice A3 n3 c3) = W3 at *
        obtain ⟨q0, q1, q2⟩ := q
        refine bodyPost_ret (v := .tuple #[serA F st A3 n3 c3, .int .i64 0]) (by simp [results, Try.results34, go_sem, q0, q1, q2]) rfl ?_
        rw [hVF.out]
        exact ⟨A3, n3, c3, rfl, hi6, hbw, fun ad e => by have := g4 ad e; omega⟩
      · generalize (ds.drop x).take (y - x) = L at *
        go_enter Try.func34, Try.ntmps34
        go_wp2_with fail
        refine (GV.out).mono ?_
        rintro e w1 ⟨rfl, b1⟩
        rw [HW0.out] at b1
        have cl := Clone_calls w1.drew ((HI.out.below b1).drewN 1)
        obtain ⟨x0, x1, x2, xl⟩ : SBox w1 w.heap.size f st (some ad) n c := X0.out.below b1 X0.out.lt
        obtain ⟨⟨z0, z1, z2, zl⟩, zf⟩ : ZBox w1 (w.heap.size + 1) := ⟨Z0.out.b.below b1 Z0.out.b.lt, fun i => (b1.frozen (p := ⟨w.heap.size + 1, i, none⟩) Z0.out.b.lt).trans (Z0.out.f i)⟩
        have f0 := zf 0
        have f1 := zf 1
        have f2 := zf 2
        have HB := Lib.hid (below_then B0.out b1 B0.out.size)
        have hk : ∀ w3, Below w1.drew.heap.size w1.drew w3 → w3.cell? ⟨w.heap.size, 0, none⟩ = some (.int .i64 f) ∧ w3.cell? ⟨w.heap.size, 1, none⟩ = some (.int .i64 st) ∧ w3.cell? ⟨w.heap.size, 2, none⟩ = some (.slice (some ad) n c) ∧ w3.frozen? ⟨w.heap.size + 1, 0, none⟩ = false ∧ w3.frozen? ⟨w.heap.size + 1, 1, none⟩ = false ∧ w3.frozen? ⟨w.heap.size + 1, 2, none⟩ = false := fun w3 b =>
          ⟨(b.cell (p := ⟨w.heap.size, 0, none⟩) xl).trans x0, (b.cell (p := ⟨w.heap.size, 1, none⟩) xl).trans x1, (b.cell (p := ⟨w.heap.size, 2, none⟩) xl).trans x2, (b.frozen (p := ⟨w.heap.size + 1, 0, none⟩) zl).trans f0, (b.frozen (p := ⟨w.heap.size + 1, 1, none⟩) zl).trans f1, (b.frozen (p := ⟨w.heap.size + 1, 2, none⟩) zl).trans f2⟩
        have HK := Lib.hid hk
        have hz : ∀ w3, Below w1.drew.heap.size w1.drew w3 → w3.cell? ⟨w.heap.size + 1, 0, none⟩ = some (.int .i64 0) ∧ w3.cell? ⟨w.heap.size + 1, 1, none⟩ = some (.int .i64 0) ∧ w3.cell? ⟨w.heap.size + 1, 2, none⟩ = some (.slice none 0 0) := fun w3 b => ⟨(b.cell (p := ⟨w.heap.size + 1, 0, none⟩) zl).trans z0, (b.cell (p := ⟨w.heap.size + 1, 1, none⟩) zl).trans z1, (b.cell (p := ⟨w.heap.size + 1, 2, none⟩) zl).trans z2⟩
        have HZ := Lib.hid hz
        have CL := Lib.hid cl
        clear b1 cl zf hk hz
        have zx : (0 : Int) ≤ (x : Int) := by omega
        have zxy : (x : Int) ≤ (y : Int) := by omega
        have zyn : (y : Int) ≤ (n : Int) := by omega
        have zyc : (y : Int) ≤ (c : Int) := by omega
        have zyc2 : y ≤ c := by omega
        have hxc : x ≤ c := by omega
        go_wp2
        go_region_held3 (fun w' => w'.cell? ⟨w.heap.size, 0, none⟩ = some (.int .i64 f) ∧ w'.cell? ⟨w.heap.size, 1, none⟩ = some (.int .i64 st) ∧ w'.cell? ⟨w.heap.size, 2, none⟩ = some (.slice (some ad) n c) ∧ w'.frozen? ⟨w.heap.size + 1, 0, none⟩ = false ∧ w'.frozen? ⟨w.heap.size + 1, 1, none⟩ = false ∧ w'.frozen? ⟨w.heap.size + 1, 2, none⟩ = false) (first | go_keep | exact HK.out _ (by assumption)) ((go_at_call 55; (with_reducible refine CL.out.mono ?_); rintro e w3 ⟨v3, rfl, o3, b3⟩; obtain ⟨A3, n3, c3, rfl, i3, g3⟩ := o3.ints; obtain ⟨y0, y1, y2⟩ := HZ.out _ b3; have O3 := Lib.hid o3; clear o3))
        have q := stored3 (.int .i64 F) (.int .i64 st) (.slice A3 n3 c3) y0 y1 y2
        have hB3 := below_then HB.out (below_then (below_drewN (Below.refl w1.heap.size w1) 1) b3 (Nat.le_refl _)) HB.out.size
        have hbw := ((hB3.setCell (p := ⟨w.heap.size + 1, 0, none⟩) (Nat.le_succ _) (.int .i64 F)).setCell (p := ⟨w.heap.size + 1, 1, none⟩) (Nat.le_succ _) (.int .i64 st)).setCell (p := ⟨w.heap.size + 1, 2, none⟩) (Nat.le_succ _) (.slice A3 n3 c3)
        have g4 : ∀ ad, A3 = some ad → w1.heap.size ≤ ad.block := g3
        have hi6 := ((i3.far (p := ⟨w.heap.size + 1, 0, none⟩) (fun ad e => by have := g4 ad e; show ad.block ≠ w.heap.size + 1; omega) (.int .i64 F)).far (p := ⟨w.heap.size + 1, 1, none⟩) (fun ad e => by have := g4 ad e; show ad.block ≠ w.heap.size + 1; omega) (.int .i64 st)).far (p := ⟨w.heap.size + 1, 2, none⟩) (fun ad e => by have := g4 ad e; show ad.block ≠ w.heap.size + 1; omega) (.slice A3 n3 c3)
        have Q := Lib.hid q
        have HBW := Lib.hid hbw
        have HI6 := Lib.hid hi6
        clear q hbw hB3 hi6
        go_wp2
        have q := Q.out
        have hbw := HBW.out
        have hi6 := HI6.out
        generalize ((w3.setCell ⟨w.heap.size + 1, 0, none⟩ (.int .i64 F)).setCell ⟨w.heap.size + 1, 1, none⟩ (.int .i64 st)).setCell ⟨w.heap.size + 1, 2, none⟩ (.slice A3 n3 c3) = W3 at *
        obtain ⟨q0, q1, q2⟩ := q
        refine bodyPost_ret (v := .tuple #[serA F st A3 n3 c3, .int .i64 0]) (by simp [results, Try.results34, go_sem, q0, q1, q2]) rfl ?_
        rw [hVF.out]
        exact ⟨A3, n3, c3, rfl, hi6, hbw, fun ad e => by have := g4 ad e; omega⟩
end Go.Proofs.Ytchnfahgmceohaa

/- Decode at any bytes, none let in. -/
namespace Go.Proofs.Ytchnfahgmceohaa
open Go.RowKit
set_option linter.unusedVariables false

theorem Byts.lt_ {w : World} {A : Option Addr} {n c : Nat} {bs : List Int} (h : Byts w A n c bs) (hn : 0 < n) : ∀ ad, A = some ad → ad.block < w.heap.size := fun ad e => by
  obtain ⟨ad', e', hl, -⟩ := h.at_ hn
  rw [e] at e'
  injection e' with e'
  rw [e']; exact hl
set_option maxRecDepth 100000 in
set_option maxHeartbeats 1000000 in
theorem Decode_any {A : Option Addr} {n c : Nat} {bs : List Int} (w : World) (h : Byts w A n c bs) :
    Calls Try.prog 17 #[.slice A n c] w (RetD (decL bs) w) := by
  by_cases hn : 0 < n
  · exact Decode_calls w h (h.lt_ hn)
  · obtain rfl : n = 0 := by omega
    have hb : bs = [] := List.eq_nil_of_length_eq_zero h.len
    subst hb
    have hpre : ¬ ([] : List Int).take 3 = [82, 65, 1] := by simp
    have hV : decL [] = ([], 7) := by unfold decL; rw [if_neg (by simp), if_pos hpre]
    rw [hV]
    have hd := head_calls w
    have HD := Lib.hid hd
    have H := Lib.hid h
    have hcap := h.cap
    have hmax := h.max
    clear hd h hV
    go_enter Try.func17, Try.ntmps17
    go_wp2_with fail
    refine (HD.out).mono ?_
    rintro e w1 ⟨v, rfl, ho, hb⟩
    obtain ⟨A3, n3, c3, rfl, hi3, -⟩ := ho.ints
    obtain rfl : n3 = 3 := hi3.len.symm
    have cp := cutPrefix_no w1 (H.out.below hb) hi3 hpre
    have CP := Lib.hid cp
    have HB := Lib.hid hb
    clear cp ho hi3 hb
    go_wp2_with fail
    refine (CP.out).mono ?_
    rintro e w2 ⟨rfl, rfl⟩
    go_wp2
    go_returns
    exact RetD.none_ HB.out
end Go.Proofs.Ytchnfahgmceohaa
