/- record of the reference. -/
import Derived.Test.YtchnfahgmceohaaMReads25
import Derived.Test.YtchnfahgmceohaaMReads19
import Derived.Test.YtchnfahgmceohaaMReads11
import Derived.Test.YtchnfahgmceohaaMReads22
import Derived.Test.YtchnfahgmceohaaMReads04
import Derived.BigQuiet

namespace Go.Proofs.Ytchnfahgmceohaa
open Go.RowKit
set_option linter.unusedVariables false

/-- Three cells of the block g are written. -/
structure Put3 (w W : World) (g : Nat) (x y : Int) (A : Option Addr) (n c : Nat) : Prop where
  b : SBox W g x y A n c
  f : ∀ i, W.frozen? ⟨g, i, none⟩ = false
  oth : ∀ h, h ≠ g → ZBox w h → ZBox W h
  bel : ∀ B w0, B ≤ g → Below B w0 w → Below B w0 W
  int : ∀ A' n' c' zs, Ints w A' n' c' zs → (∀ ad, A' = some ad → ad.block ≠ g) → Ints W A' n' c' zs
theorem put3 {w : World} {g : Nat} {u v : Int} {A0 : Option Addr} {n0 c0 : Nat} (b : SBox w g u v A0 n0 c0) (fz : ∀ i, w.frozen? ⟨g, i, none⟩ = false) (x y : Int) (A : Option Addr) (n c : Nat) : Put3 w (((w.setCell ⟨g, 0, none⟩ (.int .i64 x)).setCell ⟨g, 1, none⟩ (.int .i64 y)).setCell ⟨g, 2, none⟩ (.slice A n c)) g x y A n c := by
  obtain ⟨q0, q1, q2⟩ := stored3 (.int .i64 x) (.int .i64 y) (.slice A n c) b.c0 b.c1 b.c2
  refine ⟨⟨q0, q1, q2, by simp [World.setCell]; exact b.lt⟩, fun i => by rw [World.frozen?_setCell, World.frozen?_setCell, World.frozen?_setCell]; exact fz i, fun h hh z => ?_, fun B w0 hB hb => ?_, fun A' n' c' zs hi ha => ?_⟩
  · exact ((z.far (p := ⟨g, 0, none⟩) hh _).far (p := ⟨g, 1, none⟩) hh _).far (p := ⟨g, 2, none⟩) hh _
  · exact ((hb.setCell (p := ⟨g, 0, none⟩) hB _).setCell (p := ⟨g, 1, none⟩) hB _).setCell (p := ⟨g, 2, none⟩) hB _
  · exact ((hi.far (p := ⟨g, 0, none⟩) ha _).far (p := ⟨g, 1, none⟩) ha _).far (p := ⟨g, 2, none⟩) ha _
theorem ZBox.cells7 {w : World} {g : Nat} (h : ZBox w g) : w.cell? ⟨g, 0, none⟩ = some (.int .i64 0) ∧ w.cell? ⟨g, 1, none⟩ = some (.int .i64 0) ∧ w.cell? ⟨g, 2, none⟩ = some (.slice none 0 0) ∧ w.frozen? ⟨g, 0, none⟩ = false ∧ w.frozen? ⟨g, 1, none⟩ = false ∧ w.frozen? ⟨g, 2, none⟩ = false ∧ g < w.heap.size := ⟨h.b.c0, h.b.c1, h.b.c2, h.f 0, h.f 1, h.f 2, h.b.lt⟩
theorem ZBox.bel {w w' : World} {g : Nat} (h : ZBox w g) {B : Nat} (hb : Below B w w') (hg : g < B) : ZBox w' g :=
  ⟨h.b.below hb hg, fun i => (hb.frozen (p := ⟨g, i, none⟩) hg).trans (h.f i)⟩
/-- An empty record is handed back. -/
theorem fin0 {w W : World} (z : ZBox W w.heap.size) (hB : Below w.heap.size w W) (x : Int) : Hid (Put3 W (((W.setCell ⟨w.heap.size, 0, none⟩ (.int .i64 0)).setCell ⟨w.heap.size, 1, none⟩ (.int .i64 0)).setCell ⟨w.heap.size, 2, none⟩ (.slice none 0 0)) w.heap.size 0 0 none 0 0 ∧ RetSer (zeroS, x) w (.returned (.tuple #[serA 0 0 none 0 0, .int .i64 x])) (((W.setCell ⟨w.heap.size, 0, none⟩ (.int .i64 0)).setCell ⟨w.heap.size, 1, none⟩ (.int .i64 0)).setCell ⟨w.heap.size, 2, none⟩ (.slice none 0 0))) := Lib.hid (by
  have P := put3 z.b z.f 0 0 none 0 0
  exact ⟨P, none, 0, 0, rfl, Ints.nil _, P.bel _ _ (Nat.le_refl _) hB, fun ad e => by cases e⟩)

set_option maxRecDepth 100000 in
set_option maxHeartbeats 4000000 in
theorem record_ref {A : Option Addr} {L c : Nat} {bs : List Int} (w : World) (h : Byts w A L c bs) :
    Calls Try.prog 72 #[.slice A L c] w (RetSer (serL bs) w) := by
  have hcap := h.cap
  have hmax := h.max
  have hfew := h.few
  have hlen := h.len
  obtain ⟨W0, hW0⟩ : ∃ W0, (w.alloc (serO 0 0 none 0 0)).alloc (serO 0 0 none 0 0) = W0 := ⟨_, rfl⟩
  have hb0 : Below w.heap.size w W0 := by rw [← hW0]; exact ((Below.refl _ _).alloc (Nat.le_refl _) _).alloc (by simp) _
  have hZ2 : ZBox W0 w.heap.size := by
    rw [← hW0]
    have b1 : Below (w.heap.size + 1) (w.alloc (serO 0 0 none 0 0)) ((w.alloc (serO 0 0 none 0 0)).alloc (serO 0 0 none 0 0)) := (Below.refl _ _).alloc (by simp) _
    exact ZBox.bel ⟨SBox.made _ 0 0 none 0 0, fun i => World.frozen?_alloc_new _ _ _ _⟩ b1 (by omega)
  have hZ4 : ZBox W0 (w.heap.size + 1) := by
    rw [← hW0]
    have e : (w.alloc (serO 0 0 none 0 0)).heap.size = w.heap.size + 1 := by simp
    rw [← e]
    exact ⟨SBox.made _ 0 0 none 0 0, fun i => World.frozen?_alloc_new _ _ _ _⟩
  have GR := Lib.hid (fun j (hj : j ≤ L) => Get_ref j W0 (h.below hb0) hj)
  have UR := Lib.hid (fun j n (hj : j ≤ L) (hn : n ≤ 10000) => Unpacked_ref j n W0 (h.below hb0) hj hn)
  have GP := Lib.hid (fun j (hj : j ≤ bs.length) => getV_parts bs j hj)
  obtain ⟨V, hV⟩ : ∃ V, serL bs = V := ⟨_, rfl⟩
  have SE := Lib.hid (fun k (hk : k < 3) (he : ¬ errN bs k = 0) => serL_err hk he)
  have HS : Hid (serL bs = V) := Lib.hid hV
  rw [hV] at SE ⊢
  have Z2 := Lib.hid hZ2
  have Z4 := Lib.hid hZ4
  have B0 := Lib.hid hb0
  have HW0 := Lib.hid hW0
  have HLn := Lib.hid hlen
  clear h hlen hV hZ2 hZ4 hb0
  obtain ⟨x0, j0, e0, hg0, hj0, -, hx0, hc0⟩ := GP.out 0 (Nat.zero_le _)
  have n0 : numN bs 0 = x0 := by show (getN bs).1 = x0; rw [List.drop_zero] at hg0; rw [hg0]
  have er0 : errN bs 0 = e0 := by show (getN bs).2.1 = e0; rw [List.drop_zero] at hg0; rw [hg0]
  have r1 : rstN bs 1 = bs.drop j0 := by show (getN bs).2.2 = bs.drop j0; rw [List.drop_zero] at hg0; rw [hg0]
  have G0 := GR.out 0 (Nat.zero_le _)
  rw [HLn.out] at hj0
  rw [show ((0 : Nat) : Int) = 0 from rfl] at G0
  clear hg0
  rcases hc0 with ⟨rfl, hv0, -⟩ | ⟨hp0, -, hv0⟩
  · rw [hv0] at G0
    obtain ⟨x1, j1, e1, hg1, hj1, -, hx1, hc1⟩ := GP.out j0 (by rw [HLn.out]; exact hj0)
    have n1 : numN bs 1 = x1 := by unfold numN; rw [r1, hg1]
    have er1 : errN bs 1 = e1 := by unfold errN; rw [r1, hg1]
    have r2 : rstN bs 2 = bs.drop j1 := by show (getN (rstN bs 1)).2.2 = _; rw [r1, hg1]
    have G1 := GR.out j0 hj0
    rw [HLn.out] at hj1
    clear hg1 r1
    rcases hc1 with ⟨rfl, hv1, -⟩ | ⟨hp1, -, hv1⟩
    · rw [hv1] at G1
      obtain ⟨x2, j2, e2, hg2, hj2, -, hx2, hc2⟩ := GP.out j1 (by rw [HLn.out]; exact hj1)
      have n2 : numN bs 2 = x2 := by unfold numN; rw [r2, hg2]
      have er2 : errN bs 2 = e2 := by unfold errN; rw [r2, hg2]
      have r3 : rstN bs 3 = bs.drop j2 := by show (getN (rstN bs 2)).2.2 = _; rw [r2, hg2]
      have G2 := GR.out j1 hj1
      rw [HLn.out] at hj2
      clear hg2 r2
      rcases hc2 with ⟨rfl, hv2, -⟩ | ⟨hp2, -, hv2⟩
      · rw [hv2] at G2
        have H0 := Lib.hid G0
        have H1 := Lib.hid G1
        have H2 := Lib.hid G2
        have hsl := HS.out
        unfold serL at hsl
        rw [er0, er1, er2, if_neg (by simp), n2, n0, n1] at hsl
        have eU : unpS bs = unpGo x2 x2 0 false (bs.drop j2) [] := by unfold unpS; rw [n2, r3]
        rw [eU] at hsl
        have HZX := Lib.hid (fun (h : x2 = 0) => show unpGo x2 x2 0 false (bs.drop j2) [] = (0, [], bs.drop j2) by rw [h, unpGo_zero])
        have F7 := fin0 Z2.out B0.out 7
        clear G0 G1 G2 hv0 hv1 hv2 r3 n0 n1 n2 er0 er1 er2 eU SE HS GP
        obtain ⟨z0, z1, z2, y0, y1, y2, zl⟩ := Z2.out.cells7
        obtain ⟨u0, u1, u2, t0, t1, t2, ul⟩ := Z4.out.cells7
        by_cases hbig : 10000 < x2
        · rw [if_pos hbig] at hsl
          subst hsl
          have hb2 : (10000 : Int) < (x2 : Int) := by omega
          clear HZX hbig UR hfew hx2
          go_enter Try.func72, Try.ntmps72
          go_wp2_with fail
          refine (H0.out).mono ?_
          rintro e w1 ⟨rfl, rfl⟩
          go_wp2_with fail
          refine (H1.out).mono ?_
          rintro e w1 ⟨rfl, rfl⟩
          go_wp2_with fail
          refine (H2.out).mono ?_
          rintro e w1 ⟨rfl, rfl⟩
          go_wp2
          have q := F7.out
          generalize (((W0.setCell ⟨w.heap.size, 0, none⟩ (.int .i64 0)).setCell ⟨w.heap.size, 1, none⟩ (.int .i64 0)).setCell ⟨w.heap.size, 2, none⟩ (.slice none 0 0)) = W3 at *
          obtain ⟨⟨⟨q0, q1, q2, -⟩, -, -, -, -⟩, q3⟩ := q
          exact bodyPost_ret (v := .tuple #[serA 0 0 none 0 0, .int .i64 7]) (by simp [results, Try.results72, go_sem, q0, q1, q2]) rfl q3
        · rw [if_neg hbig] at hsl
          have ur := UR.out j2 x2 hj2 (by omega)
          have hb2 : (x2 : Int) ≤ 10000 := by omega
          have hrest : (bs.drop j2).length = L - j2 := by rw [List.length_drop, HLn.out]
          generalize unpGo x2 x2 0 false (bs.drop j2) [] = U at *
          obtain ⟨ue, uo, ur'⟩ := U
          dsimp only at hsl
          have URR := Lib.hid ur
          have HRS := Lib.hid hrest
          have HSL := Lib.hid hsl
          clear ur hrest UR hsl hbig hx2 F7 z0 z1 z2 y0 y1 y2 u0 u1 u2 t0 t1 t2
          go_enter Try.func72, Try.ntmps72
          go_wp2_with fail
          refine (H0.out).mono ?_
          rintro e w1 ⟨rfl, rfl⟩
          go_wp2_with fail
          refine (H1.out).mono ?_
          rintro e w1 ⟨rfl, rfl⟩
          go_wp2_with fail
          refine (H2.out).mono ?_
          rintro e w1 ⟨rfl, rfl⟩
          go_wp2_with fail
          refine (URR.out).mono ?_
          rintro e w1 ⟨A1, m1, c1, out, E, rfl, i1, b1, f1, hE⟩
          have zz2 := Z2.out.bel b1 zl
          have zz4 := Z4.out.bel b1 ul
          have B1 := Lib.hid (below_then B0.out b1 B0.out.size)
          have F7 := fin0 zz2 B1.out 7
          have Z21 := Lib.hid zz2
          have Z41 := Lib.hid zz4
          obtain ⟨z0, z1, z2, y0, y1, y2, zl⟩ := Z21.out.cells7
          obtain ⟨u0, u1, u2, t0, t1, t2, ul⟩ := Z41.out.cells7
          have f1' : ∀ ad, A1 = some ad → w.heap.size + 2 ≤ ad.block := fun ad e => by
            have h1 := f1 ad e
            have h2 : W0.heap.size = w.heap.size + 2 := by rw [← HW0.out]; simp
            omega
          have HE := Lib.hid hE
          have I1 := Lib.hid i1
          have FR := Lib.hid f1'
          clear b1 i1 f1 f1' hE zz2 zz4
          by_cases hue : ue = 0
          · subst hue
            obtain ⟨rfl, he2⟩ := HE.out rfl
            obtain ⟨R, hR⟩ : ∃ R, ur'.length = R := ⟨_, rfl⟩
            dsimp only at he2
            rw [hR] at he2
            by_cases hgood : R = 0
            · have hs := HSL.out
              rw [if_neg (by intro h; rcases h with h | h; exact h rfl; omega)] at hs
              have hcase : (((j2 : Int) == (L : Int)) = true ∧ x2 = 0) ∨ (0 : Int) < (x2 : Int) := by
                by_cases hx20 : x2 = 0
                · have hz := HZX.out hx20
                  injection hz with hz1 hz2
                  injection hz2 with hz3 hz4
                  have := HRS.out
                  rw [← hz4] at this
                  exact .inl ⟨by simp; omega, hx20⟩
                · exact .inr (by omega)
              obtain rfl : E = (L : Int) := by omega
              have P4 := fun x y => put3 Z41.out.b Z41.out.f x y A1 m1 c1
              have UF := Lib.hid (fun W => Unfolded_ref x0 W (by omega))
              generalize unfoldN x0 = ff at *
              obtain ⟨W2, hW2⟩ : ∃ W2, ((w1.setCell ⟨w.heap.size + 1, 0, none⟩ (.int .i64 ff)).setCell ⟨w.heap.size + 1, 1, none⟩ (.int .i64 (x1 : Int))).setCell ⟨w.heap.size + 1, 2, none⟩ (.slice A1 m1 c1) = W2 := ⟨_, rfl⟩
              have p4 := P4 ff (x1 : Int)
              rw [hW2] at p4
              have rv := rValid_calls ff (x1 : Int) W2 (p4.int _ _ _ _ I1.out (fun ad e => by have := FR.out ad e; omega))
              have Z22 : ZBox W2 w.heap.size := p4.oth _ (by omega) Z21.out
              have B2 := Lib.hid (p4.bel _ _ (Nat.le_succ _) B1.out)
              have I2 := Lib.hid (p4.int _ _ _ _ I1.out (fun ad e => by have := FR.out ad e; omega))
              have X2 := Lib.hid p4.b
              have Y2 := Lib.hid Z22
              obtain ⟨k0, k1, k2, kl⟩ : W2.cell? ⟨w.heap.size + 1, 0, none⟩ = some (.int .i64 ff) ∧ W2.cell? ⟨w.heap.size + 1, 1, none⟩ = some (.int .i64 (x1 : Int)) ∧ W2.cell? ⟨w.heap.size + 1, 2, none⟩ = some (.slice A1 m1 c1) ∧ w.heap.size + 1 < W2.heap.size := ⟨p4.b.c0, p4.b.c1, p4.b.c2, p4.b.lt⟩
              clear he2 hgood hR P4 p4 Z22 HE HSL HRS HZX F7
              cases hval : validS ff (x1 : Int) out
              · rw [if_pos hval] at hs
                subst hs
                rw [hval] at rv
                have RV := Lib.hid rv
                clear rv hval
                rcases hcase with ⟨hj, rfl⟩ | hx21 <;> (
                  go_wp2_with fail
                  refine (UF.out _).mono ?_
                  rintro e w2 ⟨rfl, rfl⟩
                  go_wp2_with fail
                  refine (RV.out).mono ?_
                  rintro e w3 ⟨rfl, b3⟩
                  have F1 := fin0 (Y2.out.bel b3 (by omega)) (below_then B2.out b3 B2.out.size) 1
                  obtain ⟨g0, g1, g2, h0, h1, h2, gl⟩ := (Y2.out.bel b3 (by omega)).cells7
                  clear b3
                  go_wp2
                  have q := F1.out
                  generalize (((w3.setCell ⟨w.heap.size, 0, none⟩ (.int .i64 0)).setCell ⟨w.heap.size, 1, none⟩ (.int .i64 0)).setCell ⟨w.heap.size, 2, none⟩ (.slice none 0 0)) = W3 at *
                  obtain ⟨⟨⟨q0, q1, q2, -⟩, -, -, -, -⟩, q3⟩ := q
                  exact bodyPost_ret (v := .tuple #[serA 0 0 none 0 0, .int .i64 1]) (by simp [results, Try.results72, go_sem, q0, q1, q2]) rfl q3)
              · rw [if_neg (by rw [hval]; simp)] at hs
                rw [hval] at rv
                have RV := Lib.hid rv
                have HVV := Lib.hid hs
                clear rv hval hs
                rcases hcase with ⟨hj, rfl⟩ | hx21 <;> (
                  go_wp2_with fail
                  refine (UF.out _).mono ?_
                  rintro e w2 ⟨rfl, rfl⟩
                  go_wp2_with fail
                  refine (RV.out).mono ?_
                  rintro e w3 ⟨rfl, b3⟩
                  have y3 := Y2.out.bel b3 (by omega)
                  have x3 := X2.out.below b3 kl
                  have p5 := put3 y3.b y3.f ff (x1 : Int) A1 m1 c1
                  have hbb := p5.bel _ _ (Nat.le_refl _) (below_then B2.out b3 B2.out.size)
                  have hii := p5.int _ _ _ _ (I2.out.below b3) (fun ad e => by have := FR.out ad e; omega)
                  have P5 := Lib.hid p5
                  have HBB := Lib.hid hbb
                  have HII := Lib.hid hii
                  obtain ⟨g0, g1, g2, h0, h1, h2, gl⟩ := y3.cells7
                  obtain ⟨d0, d1, d2, dl⟩ : w3.cell? ⟨w.heap.size + 1, 0, none⟩ = some (.int .i64 ff) ∧ w3.cell? ⟨w.heap.size + 1, 1, none⟩ = some (.int .i64 (x1 : Int)) ∧ w3.cell? ⟨w.heap.size + 1, 2, none⟩ = some (.slice A1 m1 c1) ∧ w.heap.size + 1 < w3.heap.size := ⟨x3.c0, x3.c1, x3.c2, x3.lt⟩
                  clear b3 y3 x3 p5 hbb hii
                  go_wp2
                  have q := P5.out
                  have hbb := HBB.out
                  have hii := HII.out
                  generalize (((w3.setCell ⟨w.heap.size, 0, none⟩ (.int .i64 ff)).setCell ⟨w.heap.size, 1, none⟩ (.int .i64 (x1 : Int))).setCell ⟨w.heap.size, 2, none⟩ (.slice A1 m1 c1)) = W3 at *
                  obtain ⟨⟨q0, q1, q2, -⟩, -, -, -, -⟩ := q
                  refine bodyPost_ret (v := .tuple #[serA ff (x1 : Int) A1 m1 c1, .int .i64 0]) (by simp [results, Try.results72, go_sem, q0, q1, q2]) rfl ?_
                  rw [← HVV.out]
                  exact ⟨A1, m1, c1, rfl, hii, hbb, fun ad e => by have := FR.out ad e; omega⟩)
            · have hs := HSL.out
              rw [if_pos (.inr (by omega))] at hs
              subst hs
              have e1 : (E == (L : Int)) = false := by simp; omega
              by_cases hx20 : x2 = 0
              · have hz := HZX.out hx20
                injection hz with hz1 hz2
                injection hz2 with hz3 hz4
                have hj : ((j2 : Int) == (L : Int)) = false := by
                  have := HRS.out
                  rw [← hz4] at this
                  simp; omega
                subst hx20
                clear he2 hgood hR hz1 hz3 hz4 HE HSL HRS
                go_wp2
                have q := F7.out
                generalize (((w1.setCell ⟨w.heap.size, 0, none⟩ (.int .i64 0)).setCell ⟨w.heap.size, 1, none⟩ (.int .i64 0)).setCell ⟨w.heap.size, 2, none⟩ (.slice none 0 0)) = W3 at *
                obtain ⟨⟨⟨q0, q1, q2, -⟩, -, -, -, -⟩, q3⟩ := q
                exact bodyPost_ret (v := .tuple #[serA 0 0 none 0 0, .int .i64 7]) (by simp [results, Try.results72, go_sem, q0, q1, q2]) rfl q3
              · have hx21 : (0 : Int) < (x2 : Int) := by omega
                clear he2 hgood hR hx20 HE HSL HRS
                go_wp2
                have q := F7.out
                generalize (((w1.setCell ⟨w.heap.size, 0, none⟩ (.int .i64 0)).setCell ⟨w.heap.size, 1, none⟩ (.int .i64 0)).setCell ⟨w.heap.size, 2, none⟩ (.slice none 0 0)) = W3 at *
                obtain ⟨⟨⟨q0, q1, q2, -⟩, -, -, -, -⟩, q3⟩ := q
                exact bodyPost_ret (v := .tuple #[serA 0 0 none 0 0, .int .i64 7]) (by simp [results, Try.results72, go_sem, q0, q1, q2]) rfl q3
          · have hs := HSL.out
            rw [if_pos (.inl hue)] at hs
            subst hs
            have heq : (ue == 0) = false := by simp [hue]
            clear hue
            go_wp2
            all_goals (
              have q := F7.out
              generalize (((w1.setCell ⟨w.heap.size, 0, none⟩ (.int .i64 0)).setCell ⟨w.heap.size, 1, none⟩ (.int .i64 0)).setCell ⟨w.heap.size, 2, none⟩ (.slice none 0 0)) = W3 at *
              obtain ⟨⟨⟨q0, q1, q2, -⟩, -, -, -, -⟩, q3⟩ := q
              exact bodyPost_ret (v := .tuple #[serA 0 0 none 0 0, .int .i64 7]) (by simp [results, Try.results72, go_sem, q0, q1, q2]) rfl q3)
      · rw [hv2] at G2
        have H0 := Lib.hid G0
        have H1 := Lib.hid G1
        have H2 := Lib.hid G2
        clear G0 G1 G2 hv0 hv1 hv2 r3 n0 n1 n2 er0 er1
        have hs := SE.out 2 (by omega) (by rw [er2]; omega)
        subst hs
        have heq : (e2 == 0) = false := by simp; omega
        have F7 := fin0 Z2.out B0.out 7
        obtain ⟨z0, z1, z2, y0, y1, y2, zl⟩ := Z2.out.cells7
        obtain ⟨u0, u1, u2, t0, t1, t2, ul⟩ := Z4.out.cells7
        clear er2 GP SE HS UR hfew
        go_enter Try.func72, Try.ntmps72
        go_wp2_with fail
        refine (H0.out).mono ?_
        rintro e w1 ⟨rfl, rfl⟩
        go_wp2_with fail
        refine (H1.out).mono ?_
        rintro e w1 ⟨rfl, rfl⟩
        go_wp2_with fail
        refine (H2.out).mono ?_
        rintro e w1 ⟨rfl, rfl⟩
        go_wp2
        have q := F7.out
        generalize (((W0.setCell ⟨w.heap.size, 0, none⟩ (.int .i64 0)).setCell ⟨w.heap.size, 1, none⟩ (.int .i64 0)).setCell ⟨w.heap.size, 2, none⟩ (.slice none 0 0)) = W3 at *
        obtain ⟨⟨⟨q0, q1, q2, -⟩, -, -, -, -⟩, q3⟩ := q
        exact bodyPost_ret (v := .tuple #[serA 0 0 none 0 0, .int .i64 7]) (by simp [results, Try.results72, go_sem, q0, q1, q2]) rfl q3
    · rw [hv1] at G1
      have H0 := Lib.hid G0
      have H1 := Lib.hid G1
      clear G0 G1 hv0 hv1 r2 n0 n1 er0
      have hs := SE.out 1 (by omega) (by rw [er1]; omega)
      subst hs
      have heq : (e1 == 0) = false := by simp; omega
      have F7 := fin0 Z2.out B0.out 7
      obtain ⟨z0, z1, z2, y0, y1, y2, zl⟩ := Z2.out.cells7
      obtain ⟨u0, u1, u2, t0, t1, t2, ul⟩ := Z4.out.cells7
      clear er1 GP SE HS UR hfew
      go_enter Try.func72, Try.ntmps72
      go_wp2_with fail
      refine (H0.out).mono ?_
      rintro e w1 ⟨rfl, rfl⟩
      go_wp2_with fail
      refine (H1.out).mono ?_
      rintro e w1 ⟨rfl, rfl⟩
      go_wp2_with fail
      refine (H0.out).mono ?_
      rintro e w1 ⟨rfl, rfl⟩
      go_wp2
      have q := F7.out
      generalize (((W0.setCell ⟨w.heap.size, 0, none⟩ (.int .i64 0)).setCell ⟨w.heap.size, 1, none⟩ (.int .i64 0)).setCell ⟨w.heap.size, 2, none⟩ (.slice none 0 0)) = W3 at *
      obtain ⟨⟨⟨q0, q1, q2, -⟩, -, -, -, -⟩, q3⟩ := q
      exact bodyPost_ret (v := .tuple #[serA 0 0 none 0 0, .int .i64 7]) (by simp [results, Try.results72, go_sem, q0, q1, q2]) rfl q3
  · rw [hv0] at G0
    have H0 := Lib.hid G0
    clear G0 hv0 r1 n0
    have hs := SE.out 0 (by omega) (by rw [er0]; omega)
    subst hs
    have heq : (e0 == 0) = false := by simp; omega
    have F7 := fin0 Z2.out B0.out 7
    obtain ⟨z0, z1, z2, y0, y1, y2, zl⟩ := Z2.out.cells7
    obtain ⟨u0, u1, u2, t0, t1, t2, ul⟩ := Z4.out.cells7
    clear er0 GP SE HS UR hfew
    go_enter Try.func72, Try.ntmps72
    go_wp2_with fail
    refine (H0.out).mono ?_
    rintro e w1 ⟨rfl, rfl⟩
    go_wp2_with fail
    refine (H0.out).mono ?_
    rintro e w1 ⟨rfl, rfl⟩
    go_wp2_with fail
    refine (H0.out).mono ?_
    rintro e w1 ⟨rfl, rfl⟩
    go_wp2
    have q := F7.out
    generalize (((W0.setCell ⟨w.heap.size, 0, none⟩ (.int .i64 0)).setCell ⟨w.heap.size, 1, none⟩ (.int .i64 0)).setCell ⟨w.heap.size, 2, none⟩ (.slice none 0 0)) = W3 at *
    obtain ⟨⟨⟨q0, q1, q2, -⟩, -, -, -, -⟩, q3⟩ := q
    exact bodyPost_ret (v := .tuple #[serA 0 0 none 0 0, .int .i64 7]) (by simp [results, Try.results72, go_sem, q0, q1, q2]) rfl q3
end Go.Proofs.Ytchnfahgmceohaa

/- Decode of the reference. -/
namespace Go.Proofs.Ytchnfahgmceohaa
open Go.RowKit
set_option linter.unusedVariables false

theorem q_of' {P : Program} {f : FuncId} {args : Array Value} {w : World} {n : Nat} {v : Value}
    (h : Calls P f args (w.drewN n) fun e w' => e = .returned v ∧ w.drewN n = w') : Calls P f args (w.drewN n) fun e w'' => e = .returned v ∧ ∃ m, w'' = w.drewN m :=
  h.mono fun _ _ ⟨he, hm⟩ => ⟨he, n, hm.symm⟩
theorem take3_iff {bs : List Int} : bs.take 3 = [82, 65, 1] ↔ 3 ≤ bs.length ∧ el bs 0 = 82 ∧ el bs 1 = 65 ∧ el bs 2 = 1 := by
  match bs with
  | [] => simp
  | [a] => simp
  | [a, b] => simp
  | a :: b :: c :: r =>
    show [a, b, c] = [82, 65, 1] ↔ 3 ≤ r.length + 1 + 1 + 1 ∧ a = 82 ∧ b = 65 ∧ c = 1
    simp
theorem el_dtake (bs : List Int) (j x t : Nat) (h : t < 4) : el (((bs.drop j).drop x).take 4) t = el bs (j + x + t) := by
  unfold el
  rw [List.getD_eq_getElem?_getD, List.getD_eq_getElem?_getD, List.getElem?_take, if_pos h, List.getElem?_drop, List.getElem?_drop]
  congr 2
  omega

set_option maxRecDepth 100000 in
set_option maxHeartbeats 4000000 in
theorem Decode_ref {A : Option Addr} {L c : Nat} {bs : List Int} (w : World) (h : Byts w A L c bs) (hA : ∀ ad, A = some ad → ad.block < w.heap.size) :
    Calls Try.prog 53 #[.slice A L c] w (RetD (decL bs) w) := by
  have hcap := h.cap
  have hmax := h.max
  have hlen := h.len
  obtain ⟨V, hV⟩ : ∃ V, decL bs = V := ⟨_, rfl⟩
  rw [hV]
  unfold decL at hV
  by_cases hbig : 1048576 < (L : Int)
  · rw [if_pos (by omega)] at hV
    subst hV
    clear h hA hlen
    go_enter Try.func53, Try.ntmps53
    go_wp2
    go_returns
    exact RetD.none_ (Below.refl _ _)
  · rw [if_neg (by omega)] at hV
    by_cases hpre : bs.take 3 = [82, 65, 1]
    · rw [if_neg (by simp [hpre])] at hV
      obtain ⟨h3, p0, p1, p2⟩ := take3_iff.1 hpre
      obtain ⟨ad, rfl, -, k0⟩ := h.at_ (show 0 < L by omega)
      have ga : ∀ k, k < L → w.cell? (ad.add k) = some (.int .u8 (el bs k)) := fun k hk => by
        obtain ⟨ad', e', -, kk⟩ := h.at_ hk
        injection e' with e'
        subst e'
        exact kk
      have k1 := ga 1 (by omega)
      have k2 := ga 2 (by omega)
      rw [p0] at k0
      rw [p1] at k1
      rw [p2] at k2
      have e0 : ad.add 0 = ad := by unfold Addr.add; split <;> simp_all
      have k0' := k0
      rw [e0] at k0'
      have k1' : w.cell? ⟨ad.block, ad.off + 1, none⟩ = some (.int .u8 65) := k1
      have k2' : w.cell? ⟨ad.block, ad.off + 2, none⟩ = some (.int .u8 1) := k2
      have hL3 : ¬ (L : Int) < 3 := by omega
      have HV := Lib.hid hV
      have H := Lib.hid h
      have HLn := Lib.hid hlen
      have hap := hA ad rfl
      have GP := Lib.hid (fun j (hj : j ≤ bs.length) => getV_parts bs j hj)
      clear h hV hlen hpre p0 p1 p2 ga e0 h3 hA
      go_enter Try.func53, Try.ntmps53
      go_wp2
      go_loopw [4, 5] (fun ov vi wr => ∃ (fu i : Nat) (out : List SerD), OwnS wr w.heap.size ov out ∧ vi = .int .i64 i ∧ i ≤ L ∧ L - i ≤ fu ∧ Hid (decGo fu (bs.drop i) out = V) ∧ Below w.heap.size w wr) (fun _ vi _ => L - (intOf vi).toNat)
      case atStart => exact ⟨bs.length, 3, [], OwnS.nil _ _, rfl, by omega, by rw [HLn.out]; omega, HV, Below.refl _ _⟩
      case round =>
        obtain ⟨fu, i, out, ho, rfl, hiL, hfu, hg, hbe⟩ := hrel
        generalize wr = wo at *
        obtain ⟨A5, n5, c5, rfl, hs5, -⟩ := ho.sers
        obtain rfl : n5 = out.length := hs5.len.symm
        have hfew := ho.few
        have HS5 := Lib.hid hs5
        have HO := Lib.hid ho
        have HBE := Lib.hid hbe
        have hsw := hbe.size
        clear ho hbe hs5 k0 k1 k2 k0' k1' k2'
        by_cases h0 : (i : Int) < (L : Int)
        · obtain ⟨fu, rfl⟩ : ∃ k, fu = k + 1 := ⟨fu - 1, by omega⟩
          obtain ⟨x, j, er, hgn, hj, hij, hxl, hcase⟩ := GP.out i (by rw [HLn.out]; exact hiL)
          rw [HLn.out] at hj
          have hg1 := hg.out
          rw [decGo, if_neg (by rw [List.length_drop, HLn.out]; omega), hgn] at hg1
          dsimp only at hg1
          by_cases hfull : out.length = 1000
          · rw [if_pos hfull] at hg1
            subst hg1
            have hfi : ((out.length : Int) == 1000) = true := by simp [hfull]
            clear hfull hgn hcase hg
            go_wp2
            go_returns
            exact RetD.none_ HBE.out
          · rw [if_neg hfull] at hg1
            have hfi : ((out.length : Int) == 1000) = false := by simp; omega
            have gr := Get_ref i wo (H.out.below HBE.out) hiL
            rcases hcase with ⟨rfl, hgv, hijj⟩ | ⟨her, -, hgv⟩
            · rw [hgv] at gr
              rw [if_neg (by simp)] at hg1
              have GR := Lib.hid gr
              clear gr hgv hgn hg
              by_cases hx : (L : Int) - (j : Int) - 4 < (x : Int)
              · rw [if_pos (by rw [List.length_drop, HLn.out]; omega)] at hg1
                subst hg1
                go_wp2_with fail
                refine (GR.out).mono ?_
                rintro e w1 ⟨rfl, rfl⟩
                go_wp2
                go_returns
                exact RetD.none_ HBE.out
              · rw [if_neg (by rw [List.length_drop, HLn.out]; omega)] at hg1
                have hg2 := hg1
                have HG2 := Lib.hid hg2
                clear hg1 hg2
                obtain ⟨J, hJ⟩ : ∃ J, j + x = J := ⟨_, rfl⟩
                have hJ4 : J + 4 ≤ L := by omega
                obtain ⟨K, hK⟩ : ∃ K, J + 4 = K := ⟨_, rfl⟩
                have t1 : (j : Int) + (x : Int) = (J : Int) := by omega
                have t2 : (J : Int) + 4 = (K : Int) := by omega
                have t3 : J - j = x := by omega
                have t4 : ¬ c = j := by omega
                have t5 : (J : Int) ≤ (L : Int) := by omega
                have t6 : (K : Int) ≤ (L : Int) := by omega
                have t7 : j ≤ J := by omega
                have t8 : (L : Int) ≤ 1048576 := by omega
                have hP := ((H.out.drop hj).take (show x ≤ L - j by omega))
                rw [if_neg t4] at hP
                have hP : Byts w (some (ad.add j)) x (c - j) ((bs.drop j).take x) := hP
                have HP := Lib.hid hP
                obtain ⟨P, hPP⟩ : ∃ P, (bs.drop j).take x = P := ⟨_, rfl⟩
                have hel : ∀ t, t < 4 → wo.cell? (ad.add (J + t)) = some (.int .u8 (el bs (J + t))) := fun t ht => by
                  obtain ⟨a', e', -, kk⟩ := (H.out.below HBE.out).at_ (show J + t < L by omega)
                  injection e' with e'
                  subst e'
                  exact kk
                have HEL := Lib.hid hel
                have hv4 : val4 (((bs.drop j).drop x).take 4) = ((el bs J * 256 + el bs (J + 1)) * 256 + el bs (J + 2)) * 256 + el bs (J + 3) := by
                  unfold val4
                  rw [el_dtake _ _ _ _ (by omega), el_dtake _ _ _ _ (by omega), el_dtake _ _ _ _ (by omega), el_dtake _ _ _ _ (by omega), hJ]
                  rfl
                have hrg := H.out.rngD
                have r0 := hrg J
                have r1 := hrg (J + 1)
                have r2 := hrg (J + 2)
                have r3 := hrg (J + 3)
                have c0 := hel 0 (by omega)
                have c1 := hel 1 (by omega)
                have c2 := hel 2 (by omega)
                have c3 := hel 3 (by omega)
                rw [Nat.add_zero] at c0
                obtain ⟨J1, hJ1⟩ : ∃ J1, J + 1 = J1 := ⟨_, rfl⟩
                obtain ⟨J2, hJ2⟩ : ∃ J2, J + 2 = J2 := ⟨_, rfl⟩
                obtain ⟨J3, hJ3⟩ : ∃ J3, J + 3 = J3 := ⟨_, rfl⟩
                rw [hJ1] at hv4 r1 c1
                rw [hJ2] at hv4 r2 c2
                rw [hJ3] at hv4 r3 c3
                generalize el bs J = d0 at *
                generalize el bs J1 = d1 at *
                generalize el bs J2 = d2 at *
                generalize el bs J3 = d3 at *
                have i0 : (K : Int) - 4 = (J : Int) := by omega
                have i1 : (K : Int) - 3 = (J1 : Int) := by omega
                have i2 : (K : Int) - 2 = (J2 : Int) := by omega
                have i3 : (K : Int) - 1 = (J3 : Int) := by omega
                have l0 : (J : Int) < (L : Int) := by omega
                have l1 : (J1 : Int) < (L : Int) := by omega
                have l2 : (J2 : Int) < (L : Int) := by omega
                have l3 : (J3 : Int) < (L : Int) := by omega
                obtain ⟨Q0, hQ0⟩ : ∃ q, d0 * 16777216 = q := ⟨_, rfl⟩
                obtain ⟨Q1, hQ1⟩ : ∃ q, d1 * 65536 = q := ⟨_, rfl⟩
                obtain ⟨Q2, hQ2⟩ : ∃ q, d2 * 256 = q := ⟨_, rfl⟩
                obtain ⟨S1, hS1⟩ : ∃ q, Q0 + Q1 = q := ⟨_, rfl⟩
                obtain ⟨S2, hS2⟩ : ∃ q, S1 + Q2 = q := ⟨_, rfl⟩
                obtain ⟨S3, hS3⟩ : ∃ q, S2 + d3 = q := ⟨_, rfl⟩
                have hv5 : val4 (((bs.drop j).drop x).take 4) = S3 := by rw [hv4]; omega
                have HV5 := Lib.hid hv5
                have w0 : IntKind.i64.wrap ((K : Int) - 4) = (J : Int) := by rw [i0]; exact IntWalk.i64_in _ (by omega)
                have w1 : IntKind.i64.wrap ((K : Int) - 3) = (J1 : Int) := by rw [i1]; exact IntWalk.i64_in _ (by omega)
                have w2 : IntKind.i64.wrap ((K : Int) - 2) = (J2 : Int) := by rw [i2]; exact IntWalk.i64_in _ (by omega)
                have w3 : IntKind.i64.wrap ((K : Int) - 1) = (J3 : Int) := by rw [i3]; exact IntWalk.i64_in _ (by omega)
                have w4 : IntKind.i64.wrap (d0 * 16777216) = Q0 := by rw [hQ0]; exact IntWalk.i64_in _ (by omega)
                have w5 : IntKind.i64.wrap (d1 * 65536) = Q1 := by rw [hQ1]; exact IntWalk.i64_in _ (by omega)
                have w6 : IntKind.i64.wrap (d2 * 256) = Q2 := by rw [hQ2]; exact IntWalk.i64_in _ (by omega)
                have w7 : IntKind.i64.wrap (Q0 + Q1) = S1 := by rw [hS1]; exact IntWalk.i64_in _ (by omega)
                have w8 : IntKind.i64.wrap (S1 + Q2) = S2 := by rw [hS2]; exact IntWalk.i64_in _ (by omega)
                have w9 : IntKind.i64.wrap (S2 + d3) = S3 := by rw [hS3]; exact IntWalk.i64_in _ (by omega)
                have v0 : IntKind.i64.wrap d0 = d0 := IntWalk.i64_in _ (by omega)
                have v1 : IntKind.i64.wrap d1 = d1 := IntWalk.i64_in _ (by omega)
                have v2 : IntKind.i64.wrap d2 = d2 := IntWalk.i64_in _ (by omega)
                have v3 : IntKind.i64.wrap d3 = d3 := IntWalk.i64_in _ (by omega)
                have sq := fun n => q_of' (Sum_ref (wo.drewN n) ((hP.below HBE.out).drewN n))
                rw [hPP] at sq
                have SQ := Lib.hid sq
                have HPP := Lib.hid hPP
                have HKK := Lib.hid (show J + 4 = K ∧ j + x = J from ⟨hK, hJ⟩)
                clear hP hel hv4 hrg r0 r1 r2 r3 hJ1 hJ2 hJ3 hQ0 hQ1 hQ2 hS1 hS2 hS3 hv5 sq hPP hJ hK i0 i1 i2 i3
                go_wp2_with fail
                refine (GR.out).mono ?_
                rintro e w1' ⟨rfl, rfl⟩
                go_wp2
                have hg2 := HG2.out
                rw [HV5.out, HPP.out] at hg2
                by_cases hsum : S3 = sumB P
                · rw [if_neg (by simp [hsum])] at hg2
                  rw [← hsum] at SQ
                  have HG3 := Lib.hid hg2
                  clear hg2 HG2 hsum
                  go_quiet ((go_at_call 62; exact SQ.out _))
                  clear w0 w1 w2 w3 w4 w5 w6 w7 w8 w9 v0 v1 v2 v3 c0 c1 c2 c3 SQ HEL
                  obtain ⟨WD, hWD⟩ : ∃ WD, wo.drewN nq = WD := ⟨_, rfl⟩
                  have hbw : Below wo.heap.size wo WD := by rw [← hWD]; exact below_drewN (Below.refl _ _) nq
                  have sr := record_ref WD (HP.out.below (HBE.out.trans (hbw.mono hsw)))
                  rw [HPP.out] at sr
                  obtain ⟨⟨s, er2⟩, hSP⟩ : ∃ U, serL P = U := ⟨_, rfl⟩
                  have hg3 := HG3.out
                  rw [hSP] at sr hg3
                  have SR := Lib.hid sr
                  have DO := Lib.hid (HO.out.below hbw)
                  have DB := Lib.hid (HBE.out.trans (hbw.mono hsw))
                  have dl : w.heap.size ≤ WD.heap.size := DB.out.size
                  have hWD2 : wo.drewN nq = WD := hWD
                  have hk5 := HKK.out
                  obtain ⟨hk6, hk7⟩ := hk5
                  have hdr : (bs.drop j).drop (x + 4) = bs.drop K := by rw [List.drop_drop]; congr 1; omega
                  have hKL : K ≤ L := by omega
                  have hKm : L - K < L - i := by omega
                  have hKf : L - K ≤ fu := by omega
                  clear HG3 hSP sr hbw hWD hk6 hk7
                  rw [hdr] at hg3
                  clear hdr
                  rw [hWD2]
                  clear hWD2
                  go_wp2_with fail
                  refine (SR.out).mono ?_
                  rintro e w5 ⟨A7, n7, c7, rfl, hi7, hb7, hA7⟩
                  have HO5 := Lib.hid (DO.out.below hb7)
                  have HB5 := Lib.hid (DB.out.trans (hb7.mono dl))
                  have HI7 := Lib.hid hi7
                  have HA7 := Lib.hid hA7
                  clear hi7 hA7 hb7
                  by_cases he2 : er2 = 0
                  · subst he2
                    rw [if_neg (by simp)] at hg3
                    have HG4 := Lib.hid hg3
                    have hba : Below w5.heap.size w5 (w5.alloc (serO s.f s.st A7 n7 c7)) := (Below.refl _ _).alloc (Nat.le_refl _) _
                    have HBA := Lib.hid hba
                    have HO6 := Lib.hid (HO5.out.below hba)
                    have HI8 := Lib.hid (HI7.out.below hba)
                    have hsz5 : w.heap.size ≤ (w5.alloc (serO s.f s.st A7 n7 c7)).heap.size := by have := HB5.out.size; simp; omega
                    have HFR := Lib.hid (DO.out.fresh dl (A := A7) (n := n7) HA7.out)
                    clear hba hg3
                    go_wp2_with (at_builtin; refine wpList_append_ser (w5.alloc (serO s.f s.st A7 n7 c7)) w.heap.size _ out A7 n7 c7 s rfl _ _ rfl rfl (by rw [World.size_alloc]; rfl) HO6.out HI8.out HFR.out hsz5 (by omega) ?_)
                    rintro v8 w8 ho8 hb8
                    have HO8 := Lib.hid ho8
                    have HB8 := Lib.hid ((HB5.out.trans (HBA.out.mono HB5.out.size)).trans hb8)
                    clear ho8 hb8
                    go_wp2
                    go_roundw
                    case rel => exact ⟨fu, K, out ++ [s], HO8.out, rfl, hKL, hKf, HG4, HB8.out⟩
                    case measure => simp [intOf]; omega
                  · rw [if_pos he2] at hg3
                    subst hg3
                    have heq : (er2 == 0) = false := by simp [he2]
                    clear he2
                    go_wp2
                    go_returns
                    exact RetD.none_ (HB5.out.alloc (by have := HB5.out.size; omega) _)
                · rw [if_pos hsum] at hg2
                  subst hg2
                  generalize sumB P = S at *
                  have hq1 : (S == S3) = false := by simp; omega
                  have hq2 : (S != S3) = true := by simp; omega
                  clear hsum
                  go_quiet ((go_at_call 62; exact SQ.out _))
                  clear w0 w1 w2 w3 w4 w5 w6 w7 w8 w9 v0 v1 v2 v3
                  go_wp2
                  go_returns
                  exact RetD.none_ (below_drewN HBE.out _)
            · rw [hgv] at gr
              rw [if_pos (by omega)] at hg1
              subst hg1
              have GR := Lib.hid gr
              have heq : (er == 0) = false := by simp; omega
              clear gr hgv hgn hg her
              go_wp2_with fail
              refine (GR.out).mono ?_
              rintro e w1 ⟨rfl, rfl⟩
              go_wp2
              go_returns
              exact RetD.none_ HBE.out
        · have hg1 := hg.out
          rw [List.drop_of_length_le (by rw [HLn.out]; omega), decGo_nil] at hg1
          subst hg1
          clear hg
          go_wp2
          go_returns
          exact ⟨_, _, _, rfl, HS5.out, HBE.out⟩
    · rw [if_pos hpre] at hV
      subst hV
      have hno : (L : Int) < 3 ∨ (¬ (L : Int) < 3 ∧ ¬ el bs 0 = 82) ∨ (¬ (L : Int) < 3 ∧ el bs 0 = 82 ∧ ¬ el bs 1 = 65) ∨ (¬ (L : Int) < 3 ∧ el bs 0 = 82 ∧ el bs 1 = 65 ∧ ¬ el bs 2 = 1) := by
        by_cases h3 : (L : Int) < 3
        · exact .inl h3
        · by_cases q0 : el bs 0 = 82
          · by_cases q1 : el bs 1 = 65
            · exact .inr (.inr (.inr ⟨h3, q0, q1, fun q2 => hpre (take3_iff.2 ⟨by omega, q0, q1, q2⟩)⟩))
            · exact .inr (.inr (.inl ⟨h3, q0, q1⟩))
          · exact .inr (.inl ⟨h3, q0⟩)
      have ga : ∀ k, k < L → ∃ ad, A = some ad ∧ w.cell? (ad.add k) = some (.int .u8 (el bs k)) := fun k hk => by
        obtain ⟨ad', e', -, kk⟩ := h.at_ hk
        exact ⟨ad', e', kk⟩
      have hr := h.rngD
      have hr0 := hr 0
      have hr1 := hr 1
      have hr2 := hr 2
      have g0 := ga 0
      have g1 := ga 1
      have g2 := ga 2
      generalize el bs 0 = d0 at *
      generalize el bs 1 = d1 at *
      generalize el bs 2 = d2 at *
      clear h hA hlen hr ga hpre
      rcases hno with h3 | hno
      · go_enter Try.func53, Try.ntmps53
        go_wp2
        go_returns
        exact RetD.none_ (Below.refl _ _)
      · obtain ⟨ad, rfl, k0⟩ := g0 (by omega)
        obtain ⟨a1, e1, k1⟩ := g1 (by omega)
        obtain ⟨a2, e2, k2⟩ := g2 (by omega)
        injection e1 with e1
        injection e2 with e2
        subst e1 e2
        have e0 : ad.add 0 = ad := by unfold Addr.add; split <;> simp_all
        rw [e0] at k0
        have k1' : w.cell? ⟨ad.block, ad.off + 1, none⟩ = some (.int .u8 d1) := k1
        have k2' : w.cell? ⟨ad.block, ad.off + 2, none⟩ = some (.int .u8 d2) := k2
        clear e0 g0 g1 g2
        rcases hno with ⟨h3, q0⟩ | ⟨h3, rfl, q1⟩ | ⟨h3, rfl, rfl, q2⟩
        · have q0' : (d0 == 82) = false := by simp [q0]
          have q0'' : (d0 != 82) = true := by simp [q0]
          clear q0
          go_enter Try.func53, Try.ntmps53
          go_wp2
          go_returns
          exact RetD.none_ (Below.refl _ _)
        · have q1' : (d1 == 65) = false := by simp [q1]
          clear q1
          go_enter Try.func53, Try.ntmps53
          go_wp2
          go_returns
          exact RetD.none_ (Below.refl _ _)
        · have q2' : (d2 == 1) = false := by simp [q2]
          clear q2
          go_enter Try.func53, Try.ntmps53
          go_wp2
          go_returns
          exact RetD.none_ (Below.refl _ _)
set_option maxRecDepth 100000 in
theorem DecodeR_any {A : Option Addr} {n c : Nat} {bs : List Int} (w : World) (h : Byts w A n c bs) :
    Calls Try.prog 53 #[.slice A n c] w (RetD (decL bs) w) := by
  by_cases hn : 0 < n
  · exact Decode_ref w h (h.lt_ hn)
  · obtain rfl : n = 0 := by omega
    have hb : bs = [] := List.eq_nil_of_length_eq_zero h.len
    subst hb
    have hV : decL [] = ([], 7) := by unfold decL; rw [if_neg (by simp), if_pos (by simp)]
    rw [hV]
    clear h hV
    go_enter Try.func53, Try.ntmps53
    go_wp2
    go_returns
    exact RetD.none_ (Below.refl _ _)
end Go.Proofs.Ytchnfahgmceohaa
