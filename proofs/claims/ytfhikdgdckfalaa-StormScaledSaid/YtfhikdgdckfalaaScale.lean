/- Scale of the program. -/
import Derived.Test.YtfhikdgdckfalaaScLaw
import Derived.Test.YtfhikdgdckfalaaShift
import Derived.Test.YtfhikdgdckfalaaMB08
namespace Go.Proofs.Ytfhikdgdckfalaa
open Go.RowKit
set_option linter.unusedVariables false

/-- The world of the loop: the record in g, the result in z, the record under way in o. -/
structure ScW (w wr : World) (g z o : Nat) (f st : Int) (A : Option Addr) (n c : Nat) (A5 : Option Addr) (n5 c5 : Nat) (zs : List Int) : Prop where
  x : SBox wr g f st A n c
  z : ZBox wr z
  b : SBox wr o f st A5 n5 c5
  fz : ∀ i, wr.frozen? ⟨o, i, none⟩ = false
  own : Own wr (o + 1) (.slice A5 n5 c5) zs
  bel : Below w.heap.size w wr
theorem ScW.step {w wr w1 : World} {g z o : Nat} {f st : Int} {A : Option Addr} {n c : Nat} {A5 : Option Addr} {n5 c5 : Nat} {zs zs' : List Int} {A6 : Option Addr} {n6 c6 : Nat}
    (h : ScW w wr g z o f st A n c A5 n5 c5 zs) (hg : g < o) (hz : z < o) (hw : w.heap.size ≤ o) (gr : GroI wr w1 (.slice A5 n5 c5) (.slice A6 n6 c6)) (ow : Own w1 (o + 1) (.slice A6 n6 c6) zs') :
    w1.cell? ⟨o, 2, none⟩ = some (.slice A5 n5 c5) ∧ w1.frozen? ⟨o, 2, none⟩ = false ∧ ScW w (w1.setCell ⟨o, 2, none⟩ (.slice A6 n6 c6)) g z o f st A n c A6 n6 c6 zs' := by
  have hb : Below (o + 1) wr w1 := gr.below h.own h.b.lt
  have hx := h.x.below hb (by omega)
  have hzb := h.z.below hb (by omega)
  have hb1 := h.b.below hb (by omega)
  have hf : ∀ i, w1.frozen? ⟨o, i, none⟩ = false := fun i => (hb.frozen (p := ⟨o, i, none⟩) (by show o < o + 1; omega)).trans (h.fz i)
  refine ⟨hb1.c2, hf 2, ⟨?_, ?_, ?_, ?_⟩, hzb.far (p := ⟨o, 2, none⟩) (by show z ≠ o; omega) _, ⟨?_, ?_, ?_, ?_⟩, fun i => by rw [World.frozen?_setCell]; exact hf i, ow.setCell (by show o < o + 1; omega) _, (h.bel.trans (hb.mono (by omega))).setCell (p := ⟨o, 2, none⟩) hw _⟩
  · rw [World.cell?_setCell_other w1 _ _ _ (by intro e; injection e with e1; omega)]; exact hx.c0
  · rw [World.cell?_setCell_other w1 _ _ _ (by intro e; injection e with e1; omega)]; exact hx.c1
  · rw [World.cell?_setCell_other w1 _ _ _ (by intro e; injection e with e1; omega)]; exact hx.c2
  · simp [World.setCell]; exact hx.lt
  · rw [World.cell?_setCell_other w1 _ _ _ (by simp)]; exact hb1.c0
  · rw [World.cell?_setCell_other w1 _ _ _ (by simp)]; exact hb1.c1
  · exact World.cell?_setCell_same _ _ _ hb1.c2
  · simp [World.setCell]; exact hb1.lt

theorem ScW.drew {w wr : World} {g z o : Nat} {f st : Int} {A : Option Addr} {n c : Nat} {A5 : Option Addr} {n5 c5 : Nat} {zs : List Int} (h : ScW w wr g z o f st A n c A5 n5 c5 zs) : ScW w wr.drew g z o f st A n c A5 n5 c5 zs :=
  ⟨⟨h.x.c0, h.x.c1, h.x.c2, h.x.lt⟩, ⟨⟨h.z.b.c0, h.z.b.c1, h.z.b.c2, h.z.b.lt⟩, h.z.f⟩, ⟨h.b.c0, h.b.c1, h.b.c2, h.b.lt⟩, h.fz, h.own.drewN 1, below_drewN h.bel 1⟩

set_option maxRecDepth 100000 in
set_option maxHeartbeats 8000000 in
theorem Scale_calls {A : Option Addr} {n c : Nat} (s : SerD) (num den : Int) (w : World) (h : Ints w A n c s.ds) :
    Calls Try.prog 37 #[serA s.f s.st A n c, .int .i64 num, .int .i64 den] w (RetSer (scaleV s num den) w) := by
  obtain ⟨f, st, ds⟩ := s
  dsimp only at h ⊢
  obtain ⟨W0, W1, hW0, hW1, hb1, x1, z1, hWW⟩ := ser_box f st A n c w
  have gv := gValid_calls f st W1 (h.below hb1)
  obtain ⟨V, hV⟩ : ∃ V, scaleV ⟨f, st, ds⟩ num den = V := ⟨_, rfl⟩
  rw [hV]
  unfold scaleV at hV
  dsimp only at hV
  have X1 := Lib.hid x1
  have Z1 := Lib.hid z1
  have B1 := Lib.hid hb1
  have I0 := Lib.hid h
  have hW := Nat.le_of_lt hWW
  have HL := Lib.hid h.len
  have hcap := h.cap
  have hmax := h.max
  obtain ⟨k0, k1, k2, kl⟩ := x1.cells
  clear h hb1 x1 z1
  cases hv : validS f st ds
  · rw [hv] at gv
    rw [if_pos hv] at hV
    subst hV
    have GV := Lib.hid gv
    clear gv hv
    go_enter Try.func37, Try.ntmps37
    go_wp2_with fail
    refine (GV.out).mono ?_
    rintro e w2 ⟨rfl, b2⟩
    have hz := Z1.out.below b2 Z1.out.b.lt
    have F := fin0g hz hW (below_then B1.out b2 B1.out.size) 1
    obtain ⟨z0, z1, z2, f0, f1, f2, zl⟩ := hz.cells
    clear b2 hz k0 k1 k2
    go_wp2
    have q := F.out
    generalize ((w2.setCell ⟨W0.heap.size, 0, none⟩ (.int .i64 0)).setCell ⟨W0.heap.size, 1, none⟩ (.int .i64 0)).setCell ⟨W0.heap.size, 2, none⟩ (.slice none 0 0) = W3 at *
    obtain ⟨⟨⟨q0, q1, q2, -⟩, -, -, -, -⟩, q3⟩ := q
    exact bodyPost_ret (v := .tuple #[serA 0 0 none 0 0, .int .i64 1]) (by simp [results, Try.results37, go_sem, q0, q1, q2]) rfl q3
  rw [hv] at gv
  rw [if_neg (by rw [hv]; simp)] at hV
  have GV := Lib.hid gv
  obtain ⟨fo, hdz⟩ := validS_parts hv
  have hn1 : n ≤ 10000 := by have := fo.n1; rw [HL.out] at this; exact this
  clear gv hv fo
  by_cases hr : num < 0 ∨ 1000000 < num ∨ den < 1 ∨ 1000000 < den
  · rw [if_pos hr] at hV
    subst hV
    have hr2 : num < 0 ∨ (¬ num < 0 ∧ 1000000 < num) ∨ (¬ num < 0 ∧ ¬ 1000000 < num ∧ den < 1) ∨ (¬ num < 0 ∧ ¬ 1000000 < num ∧ ¬ den < 1 ∧ 1000000 < den) := by omega
    clear hr hdz
    rcases hr2 with h1 | ⟨h1, h2⟩ | ⟨h1, h2, h3⟩ | ⟨h1, h2, h3, h4⟩ <;> (
      go_enter Try.func37, Try.ntmps37
      go_wp2_with fail
      refine (GV.out).mono ?_
      rintro e w2 ⟨rfl, b2⟩
      have hz := Z1.out.below b2 Z1.out.b.lt
      have F := fin0g hz hW (below_then B1.out b2 B1.out.size) 2
      obtain ⟨z0, z1, z2, f0, f1, f2, zl⟩ := hz.cells
      clear b2 hz k0 k1 k2
      go_wp2
      have q := F.out
      generalize ((w2.setCell ⟨W0.heap.size, 0, none⟩ (.int .i64 0)).setCell ⟨W0.heap.size, 1, none⟩ (.int .i64 0)).setCell ⟨W0.heap.size, 2, none⟩ (.slice none 0 0) = W3 at *
      obtain ⟨⟨⟨q0, q1, q2, -⟩, -, -, -, -⟩, q3⟩ := q
      exact bodyPost_ret (v := .tuple #[serA 0 0 none 0 0, .int .i64 2]) (by simp [results, Try.results37, go_sem, q0, q1, q2]) rfl q3)
  rw [if_neg hr] at hV
  have r1 : ¬ num < 0 := by omega
  have r2 : ¬ 1000000 < num := by omega
  have r3 : ¬ den < 1 := by omega
  have r4 : ¬ 1000000 < den := by omega
  have SB := Lib.hid (fun k (hk : k ≤ ds.length) => sc_bd hdz (by rw [HL.out]; exact hn1) (by omega : 0 ≤ num) (by omega) (by omega : 1 ≤ den) hk)
  have SM := Lib.hid (fun k (hk : k < ds.length) => sc_mono (num := num) hdz (by omega) (by omega : 1 ≤ den) hk)
  have DZ := Lib.hid (fun k (hk : k < ds.length) => hdz _ (el_mem hk))
  have HV := Lib.hid hV
  clear hr hdz hV
  go_enter Try.func37, Try.ntmps37
  go_wp2_with fail
  refine (GV.out).mono ?_
  rintro e w2 ⟨rfl, b2⟩
  obtain ⟨p0, p1, p2, pl⟩ := (X1.out.below b2 X1.out.lt).cells
  obtain ⟨W3, hW3⟩ : ∃ W3, w2.alloc (serO f st none 0 0) = W3 := ⟨_, rfl⟩
  have ba : Below w2.heap.size w2 W3 := by rw [← hW3]; exact (Below.refl _ _).alloc (Nat.le_refl _) _
  have hzo : W0.heap.size < w2.heap.size := Nat.lt_of_lt_of_le Z1.out.b.lt b2.size
  have SW0 := Lib.hid (show ScW w W3 w.heap.size W0.heap.size w2.heap.size f st A n c none 0 0 (fl 0 (scF ds num den)) from
    ⟨(X1.out.below b2 X1.out.lt).below ba pl, (Z1.out.below b2 Z1.out.b.lt).below ba hzo, by rw [← hW3]; exact SBox.made _ _ _ _ _ _, fun i => by rw [← hW3]; exact World.frozen?_alloc_new _ _ _ _, Own.nil _ _, below_then (below_then B1.out b2 B1.out.size) ba (Nat.le_trans (Nat.le_of_lt hWW) (Nat.le_of_lt hzo))⟩)
  have hgo : w.heap.size < w2.heap.size := pl
  have q2 := SW0.out.x.c2
  have HW3 := Lib.hid hW3
  clear b2 ba k0 k1 k2 kl GV X1 Z1 B1 q2 hW3
  go_wp2
  go_loopw [9, 10, 43] (fun vs vb vk wr => ∃ (k : Nat) (S b : Int) (A5 : Option Addr) (n5 c5 : Nat), k ≤ n ∧ vk = .int .i64 k ∧ vs = .int .i64 S ∧ vb = .int .i64 b ∧ Hid (S = sumF (mx0 ds) k) ∧ Hid (b = scS ds num den k) ∧ ScW w wr w.heap.size W0.heap.size w2.heap.size f st A n c A5 n5 c5 (fl k (scF ds num den)) ∧ Hid (∀ j, j < k → ¬ 4194304 < scF ds num den j)) (fun _ _ vk _ => n - (intOf vk).toNat)
  case atStart => exact ⟨0, 0, 0, none, 0, 0, Nat.zero_le _, rfl, rfl, rfl, rfl, (scS_zero _ _ _).symm, by rw [HW3.out]; exact SW0.out, fun j hj => absurd hj (by omega)⟩
  case round =>
    clear SW0 p0 p1 p2
    obtain ⟨k, S, b, A5, n5, c5, hk, rfl, rfl, rfl, hS, hb, hw, hno⟩ := hrel
    generalize wr = wo at *
    have SW := Lib.hid hw
    by_cases hlt : (k : Int) < (n : Int)
    · have hkl : k < ds.length := by rw [HL.out]; omega
      obtain ⟨ad, rfl, -, hc⟩ := (I0.out.below hw.bel).at_ (k := k) (by omega)
      obtain ⟨t0, t1, t2, tl⟩ := hw.b.cells
      have dz := DZ.out k hkl
      have NF : Hid (scF ds num den k = if el ds k < 0 then el ds k else scS ds num den (k + 1) - scS ds num den k) := Lib.hid rfl
      have NS : Hid (el ds k < 0 → scS ds num den (k + 1) = scS ds num den k ∧ sumF (mx0 ds) (k + 1) = sumF (mx0 ds) k) := Lib.hid (fun h => ⟨scS_neg h, by rw [sumF, show mx0 ds k = 0 from if_pos h, Int.add_zero]⟩)
      have NP : Hid (¬ el ds k < 0 → sumF (mx0 ds) (k + 1) = S + el ds k) := Lib.hid (fun h => by rw [sumF, show mx0 ds k = el ds k from if_neg h, hS.out])
      have sb := SB.out (k + 1) hkl
      have sm := SM.out k hkl
      have b0 := (SB.out k (by omega)).2.2.2.2
      rw [← hb.out] at sm b0
      have HD : Hid (scS ds num den (k + 1) = sumF (mx0 ds) (k + 1) * num / den) := Lib.hid rfl
      rw [← hb.out] at NF NS
      generalize hx : el ds k = x at *
      have HX := Lib.hid hx
      have lf : Hid ((fl k (scF ds num den)).length < 17592186044416) := Lib.hid (by rw [fl_length]; omega)
      clear hw hx
      by_cases hneg : x < 0
      · have ND : Hid (scF ds num den k = x) := Lib.hid (by rw [NF.out, if_pos hneg])
        obtain ⟨n1, n2⟩ := NS.out hneg
        have N1 := Lib.hid n1
        have N2 := Lib.hid n2
        clear NP NS NF n1 n2 sb sm HD
        go_wp2_with (at_builtin; refine wpList_append_intG wo (w2.heap.size + 1) _ (fl k (scF ds num den)) x rfl _ _ rfl rfl rfl SW.out.own SW.out.b.lt lf.out (by omega) ?_)
        intro v5 w5 ho5 hg5
        rw [← ND.out, ← fl_succ] at ho5
        obtain ⟨A6, n6, c6, rfl, -, -⟩ := ho5.ints
        obtain ⟨e1, e2, e3⟩ := SW.out.step hgo hzo (by omega) hg5 ho5
        have E3 := Lib.hid e3
        clear ho5 hg5 e3 SW
        go_wp2
        go_roundw
        case rel => exact ⟨k + 1, S, b, A6, n6, c6, by omega, by go_num, rfl, rfl, Lib.hid (by rw [N2.out]; exact hS.out), Lib.hid N1.out.symm, E3.out, Lib.hid fun j hj => by
          by_cases hjk : j = k
          · subst hjk; rw [ND.out]; omega
          · have := hno.out j (by omega); omega⟩
        case measure => simp [intOf]; try omega
      · have ND : Hid (scF ds num den k = scS ds num den (k + 1) - b) := Lib.hid (by rw [NF.out, if_neg hneg])
        have np := NP.out hneg
        rw [np] at HD sb
        obtain ⟨T, hT⟩ : ∃ T, S + x = T := ⟨_, rfl⟩
        rw [hT] at HD sb np
        obtain ⟨Pd, hP⟩ : ∃ Pd, T * num = Pd := ⟨_, rfl⟩
        rw [hP] at HD sb
        have HD2 := Lib.hid HD.out.symm
        obtain ⟨s0, s1, s2, s3, s4, s5⟩ := sb
        obtain ⟨s6, s7⟩ := b0
        have NPH := Lib.hid np
        have SX : Hid (∀ k', k' = scS ds num den (k + 1) → scF ds num den k = k' - b) := Lib.hid (fun k' h => by rw [h, ND.out])
        generalize hQ : scS ds num den (k + 1) = Q at *
        have HQ := Lib.hid hQ
        have hdq : Pd / den = Q := HD2.out
        obtain ⟨D, hD⟩ : ∃ D, Q - b = D := ⟨_, rfl⟩
        have ND2 : Hid (scF ds num den k = D) := Lib.hid (by rw [ND.out, hD])
        clear NP NS NF HD HD2 np hQ ND SX
        by_cases hbig : 4194304 < D
        · have hv := HV.out
          rw [if_pos (scBad_at hkl (by rw [ND2.out]; exact hbig))] at hv
          subst hv
          have F := fin0g SW.out.z hW SW.out.bel 5
          obtain ⟨z0, z1, z2, f0, f1, f2, zl⟩ := SW.out.z.cells
          clear SW HV
          go_wp2
          have q := F.out
          generalize ((wo.setCell ⟨W0.heap.size, 0, none⟩ (.int .i64 0)).setCell ⟨W0.heap.size, 1, none⟩ (.int .i64 0)).setCell ⟨W0.heap.size, 2, none⟩ (.slice none 0 0) = W3 at *
          obtain ⟨⟨⟨q0, q1, q2, -⟩, -, -, -, -⟩, q3⟩ := q
          exact bodyPost_ret (v := .tuple #[serA 0 0 none 0 0, .int .i64 5]) (by simp [results, Try.results37, go_sem, q0, q1, q2]) rfl q3
        · go_wp2_with (at_builtin; refine wpList_append_intG wo (w2.heap.size + 1) _ (fl k (scF ds num den)) D rfl _ _ rfl rfl rfl SW.out.own SW.out.b.lt lf.out (by omega) ?_)
          intro v5 w5 ho5 hg5
          rw [← ND2.out, ← fl_succ] at ho5
          obtain ⟨A6, n6, c6, rfl, -, -⟩ := ho5.ints
          obtain ⟨e1, e2, e3⟩ := SW.out.step hgo hzo (by omega) hg5 ho5
          have E3 := Lib.hid e3
          clear ho5 hg5 e3 SW
          go_wp2
          go_roundw
          case rel => exact ⟨k + 1, T, Q, A6, n6, c6, by omega, by go_num, rfl, rfl, Lib.hid NPH.out.symm, Lib.hid HQ.out.symm, E3.out, Lib.hid fun j hj => by
            by_cases hjk : j = k
            · subst hjk; rw [ND2.out]; omega
            · have := hno.out j (by omega); omega⟩
          case measure => simp [intOf]; try omega
    · obtain rfl : k = n := by omega
      have hv := HV.out
      rw [if_neg (by rw [scBad_no (fun j hj => hno.out j (by rw [← HL.out]; exact hj))]; simp), HL.out] at hv
      subst hv
      obtain ⟨A6, n6, c6, e6, i6, g6⟩ := hw.own.ints
      injection e6 with e6 e7 e8
      subst e6 e7 e8
      have F := finSg hw.z hW hw.bel ⟨f, st, fl k (scF ds num den)⟩ 0 i6 (fun ad e => by have := g6 ad e; omega)
      obtain ⟨z0, z1, z2, f0, f1, f2, zl⟩ := hw.z.cells
      obtain ⟨t0, t1, t2, tl⟩ := hw.b.cells
      dsimp only at F
      clear hw i6 g6 SW HV hno hS hb
      go_wp2
      have q := F.out
      generalize ((wo.setCell ⟨W0.heap.size, 0, none⟩ (.int .i64 f)).setCell ⟨W0.heap.size, 1, none⟩ (.int .i64 st)).setCell ⟨W0.heap.size, 2, none⟩ (.slice A5 n5 c5) = W3 at *
      obtain ⟨⟨⟨q0, q1, q2, -⟩, -, -, -, -⟩, q3⟩ := q
      exact bodyPost_ret (v := .tuple #[serA f st A5 n5 c5, .int .i64 0]) (by simp [results, Try.results37, go_sem, q0, q1, q2]) rfl q3
end Go.Proofs.Ytfhikdgdckfalaa
