/- Alternating of the reference. -/
import Derived.Test.YtfhikdgdckfalaaBlkR
import Derived.Test.YtfhikdgdckfalaaDesR
namespace Go.Proofs.Ytfhikdgdckfalaa
open Go.RowKit
set_option linter.unusedVariables false

set_option maxRecDepth 100000 in
set_option maxHeartbeats 8000000 in
theorem Alternating_ref {A0 A1 A2 : Option Addr} {n0 c0 n1 c1 n2 c2 : Nat} {ds ps : List Int} {rows : List (List Int)} (v : Bool) (y f st n p : Int) (w : World) (h0 : Ints w A0 n0 c0 ds) (h1 : Ints w A1 n1 c1 ps) (h2 : Tab w A2 n2 c2 rows) (hv : v = true ↔ VOk ds ps rows) :
    Calls Try.prog 20 #[tabA A0 n0 c0 A1 n1 c1 A2 n2 c2, .int .i64 y, .int .i64 f, .int .i64 st, .int .i64 n, .int .i64 p] w (RetSer (madeV v ds ps rows y f st n p true) w) := by
  obtain ⟨W0, W1, hW0, hW1, hb1, x1, z1, hWW⟩ := made_box (A0 := A0) (n0 := n0) (c0 := c0) (A1 := A1) (n1 := n1) (c1 := c1) (A2 := A2) (n2 := n2) (c2 := c2) w
  have GC := Lib.hid (Given_calls v y f st n W1 (h0.below hb1) (h1.below hb1) (h2.below hb1) hv)
  have PC := Lib.hid (fun (N : Nat) W (B : Below w.heap.size w W) (ok : VOk ds ps rows) (s1 : 1 ≤ st ∧ st ≤ 86400) (s2 : 1 ≤ N ∧ N ≤ 10000) (he : endsB ds ps y st N = true) => Parts_calls y st N W (h0.below B) (h1.below B) (h2.below B) ok s1 s2 he)
  obtain ⟨V, hV⟩ : ∃ V, madeV v ds ps rows y f st n p true = V := ⟨_, rfl⟩
  rw [hV]
  rw [made_giv] at hV
  have OKG := Lib.hid (fun h => giv_ok (v := v) (ds := ds) (ps := ps) (y := y) (f := f) (st := st) (n := n) h)
  generalize givV v ds ps y f st n = g at *
  have X1 := Lib.hid x1
  have Z1 := Lib.hid z1
  have B1 := Lib.hid hb1
  have HV := Lib.hid hv
  obtain ⟨k0, k1, k2⟩ : W1.cell? ⟨w.heap.size, 0, none⟩ = some (.slice A0 n0 c0) ∧ W1.cell? ⟨w.heap.size, 1, none⟩ = some (.slice A1 n1 c1) ∧ W1.cell? ⟨w.heap.size, 2, none⟩ = some (.slice A2 n2 c2) := ⟨x1.c0, x1.c1, x1.c2⟩
  clear h0 h1 h2 hb1 x1 z1 hv
  by_cases hg : g = 0
  · rw [if_pos hg] at hV
    obtain ⟨rfl, hst, he⟩ := OKG.out hg
    have so := stB_iff.1 hst
    obtain ⟨N, rfl⟩ := Int.eq_ofNat_of_zero_le (show 0 ≤ n by have := so.n0; omega)
    have hN := so.n0
    have hN' := so.n1
    simp only [Int.toNat_natCast] at hV he
    have P1 := Lib.hid (fun W B => PC.out N W B (HV.out.1 rfl) ⟨so.s0, so.s1⟩ ⟨by omega, by omega⟩ he)
    subst hg
    by_cases hp : 0 ≤ p ∧ p < N
    · rw [if_pos (by unfold ixB; rw [decide_eq_true (by omega), decide_eq_true (by omega)]; rfl)] at hV
      simp only [if_true] at hV
      obtain ⟨P, rfl⟩ := Int.eq_ofNat_of_zero_le hp.1
      rw [Int.toNat_natCast] at hV
      have hp1 : ¬ (P : Int) < 0 := by omega
      have hp2 := hp.2
      have hPN : P < N := by omega
      have LB : Hid ((blkL ds ps rows y st N).length = N) := Lib.hid (by unfold blkL; exact fl_length _ _)
      generalize blkL ds ps rows y st N = L at *
      have hmk := make_ints N (by omega)
      have HMK := Lib.hid hmk
      have hw1 : IntKind.i64.wrap ((P : Int) - 1) = (P : Int) - 1 := IntWalk.i64_in _ (by omega)
      subst hV
      clear PC OKG HV hst he so hp hmk
      go_enter Try.func20, Try.ntmps20
      go_wp2_with fail
      refine (GC.out).mono ?_
      rintro e w2 ⟨rfl, b2⟩
      have B2 := Lib.hid (below_then B1.out b2 B1.out.size)
      have X2 := Lib.hid (X1.out.below b2 X1.out.lt)
      have Z2 := Lib.hid (Z1.out.below b2 Z1.out.b.lt)
      obtain ⟨m0, m1, m2⟩ : w2.cell? ⟨w.heap.size, 0, none⟩ = some (.slice A0 n0 c0) ∧ w2.cell? ⟨w.heap.size, 1, none⟩ = some (.slice A1 n1 c1) ∧ w2.cell? ⟨w.heap.size, 2, none⟩ = some (.slice A2 n2 c2) := ⟨X2.out.c0, X2.out.c1, X2.out.c2⟩
      clear b2 k0 k1 k2
      go_wp2_with fail
      refine (P1.out _ B2.out).mono ?_
      rintro e w3 ⟨A3, n3, c3, rfl, i3, b3, g3⟩
      obtain rfl : n3 = N := by rw [← i3.len]; exact LB.out
      have B3 := Lib.hid (below_then B2.out b3 B2.out.size)
      have Z3 := Lib.hid (Z2.out.below b3 Z2.out.b.lt)
      have RL := Lib.hid (fun j (hj : j < n3) => i3.rng (el L j) (el_mem (by rw [LB.out]; exact hj)))
      have DC := Lib.hid (Descending_calls w3 i3 (by omega))
      clear b3 g3 m0 m1 m2 i3
      go_wp2_with fail
      refine (DC.out).mono ?_
      rintro e w4 ⟨S, hd, A4, n4, c4, rfl, i4, b4, g4⟩
      obtain rfl : n4 = n3 := by rw [← i4.len, fl_length]
      have DO := Lib.hid hd
      have B4 := Lib.hid (below_then B3.out b4 B3.out.size)
      have Z4 := Lib.hid (Z3.out.below b4 Z3.out.b.lt)
      have I4 := Lib.hid i4
      have hcap4 := i4.cap
      have hmax4 := i4.max
      have hsz : W0.heap.size < w4.heap.size := Z4.out.b.lt
      clear hd b4 g4 i4 B3 Z3 B2 Z2 X2 DC P1
      obtain ⟨W5, hW5⟩ : ∃ W5, w4.alloc (.cells (madeCells #[.int .i64 0] n4) 3) = W5 := ⟨_, rfl⟩
      have RO := Lib.hid (show Row W5 w4.heap.size n4 (fun _ => 0) by rw [← hW5]; exact Row.made w4 n4)
      have B5 := Lib.hid (show Below w4.heap.size w4 W5 by rw [← hW5]; exact (Below.refl _ _).alloc (Nat.le_refl _) _)
      have IB := Lib.hid (fun W (B : Below w4.heap.size w4 W) k (hk : k < n4) => by
        obtain ⟨ad, e, hl, hc⟩ := (I4.out.below B).at_ hk
        rw [el_fl _ hk] at hc
        exact (show ∃ ad, A4 = some ad ∧ ad.block < W.heap.size ∧ W.cell? (ad.add k) = some (.int .i64 (S k)) from ⟨ad, e, hl, hc⟩))
      obtain ⟨ad0, rfl, hl0, hc0⟩ := IB.out _ B5.out 0 (by omega)
      obtain ⟨x0, hx0⟩ : ∃ x0, S 0 = x0 := ⟨_, rfl⟩
      rw [hx0] at hc0
      have hc0 : W5.cell? ad0 = some (.int .i64 x0) := hc0
      have FO := RO.out.free P
      have CO := RO.out.cell P hPN
      have R6 := Lib.hid (show Row (W5.setCell ⟨w4.heap.size, P, none⟩ (.int .i64 x0)) w4.heap.size n4 (plA n4 P S 1).f by rw [← hx0, plA_one]; exact RO.out.set P (S 0))
      have B6 := Lib.hid (B5.out.setCell (p := ⟨w4.heap.size, P, none⟩) (Nat.le_refl _) (.int .i64 x0))
      have hmk := HMK.out
      clear hx0 RO
      go_wp2
      go_loopw [17, 18, 19] (fun vl vr vk wr => ∃ k : Nat, 1 ≤ k ∧ k ≤ n4 ∧ vk = .int .i64 k ∧ vl = .int .i64 (plA n4 P S k).l ∧ vr = .int .i64 (plA n4 P S k).r ∧ Row wr w4.heap.size n4 (plA n4 P S k).f ∧ Below w4.heap.size w4 wr) (fun _ _ vk _ => n4 - (intOf vk).toNat)
      case atStart => exact ⟨1, by omega, by omega, rfl, rfl, rfl, R6.out, B6.out⟩
      case round =>
        obtain ⟨k, hk1, hk, rfl, rfl, rfl, hr, hb⟩ := hrel
        generalize wr = wo at *
        have HRO := Lib.hid hr
        have HB := Lib.hid hb
        clear hr hb R6 B6 B5 hmk HMK hc0 FO CO
        by_cases hlt : (k : Int) < (n4 : Int)
        · obtain ⟨ad, ea, hla, cs⟩ := IB.out wo HB.out k (by omega)
          obtain rfl : ad0 = ad := by injection ea
          have ok : PlOk n4 P k (plA n4 P S k).l (plA n4 P S k).r := by
            have := plA_ok S hPN (k - 1) (by omega)
            rwa [show k - 1 + 1 = k by omega] at this
          have hk0 : ¬ k = 0 := by omega
          have NR : Hid (((plA n4 P S k).r < n4 ∧ k % 2 = 1) ∨ (plA n4 P S k).l < 0 → (plA n4 P S (k + 1)).l = (plA n4 P S k).l ∧ (plA n4 P S (k + 1)).r = (plA n4 P S k).r + 1 ∧ (plA n4 P S (k + 1)).f = upd (plA n4 P S k).f (plA n4 P S k).r.toNat (S k)) := Lib.hid (fun c => by rw [plA_right hk0 c]; exact ⟨rfl, rfl, rfl⟩)
          have NL : Hid (¬ (((plA n4 P S k).r < n4 ∧ k % 2 = 1) ∨ (plA n4 P S k).l < 0) → (plA n4 P S (k + 1)).l = (plA n4 P S k).l - 1 ∧ (plA n4 P S (k + 1)).r = (plA n4 P S k).r ∧ (plA n4 P S (k + 1)).f = upd (plA n4 P S k).f (plA n4 P S k).l.toNat (S k)) := Lib.hid (fun c => by rw [plA_left hk0 c]; exact ⟨rfl, rfl, rfl⟩)
          generalize (plA n4 P S k).l = Lf at *
          generalize (plA n4 P S k).r = R at *
          generalize (plA n4 P S k).f = fr at *
          generalize S k = x at *
          obtain ⟨q, hq⟩ : ∃ q : Nat, R = q := ⟨R.toNat, by have := ok.r0; omega⟩
          subst hq
          rw [Int.toNat_natCast] at NR
          obtain ⟨t0, t1, t2, t3, t4⟩ := ok
          have HOK := Lib.hid t4
          clear ea hk0
          by_cases hL : Lf < 0
          · have hqn : (q : Int) < (n4 : Int) := by omega
            rcases Nat.mod_two_eq_zero_or_one k with hm | hm
            · have et : (k : Int).tmod 2 = 0 := by rw [show (2 : Int) = ((2 : Nat) : Int) from rfl, ← Int.ofNat_tmod, hm]; rfl
              clear hm t4
              have NX := Lib.hid (NR.out (.inr hL))
              have FO := HRO.out.free q
              have CO := HRO.out.cell q (by omega)
              have R1 := Lib.hid (show Row (wo.setCell ⟨w4.heap.size, q, none⟩ (.int .i64 x)) w4.heap.size n4 (plA n4 P S (k + 1)).f by rw [NX.out.2.2]; exact HRO.out.set q x)
              have B7 := Lib.hid (HB.out.setCell (p := ⟨w4.heap.size, q, none⟩) (Nat.le_refl _) (.int .i64 x))
              clear NR NL HRO HB HOK
              go_wp2
              go_roundw
              case rel => exact ⟨k + 1, by omega, by omega, by go_num, by rw [NX.out.1], by rw [NX.out.2.1], R1.out, B7.out⟩
              case measure => simp [intOf]; try omega
            · have et : (k : Int).tmod 2 = 1 := by rw [show (2 : Int) = ((2 : Nat) : Int) from rfl, ← Int.ofNat_tmod, hm]; rfl
              clear hm t4
              have NX := Lib.hid (NR.out (.inr hL))
              have FO := HRO.out.free q
              have CO := HRO.out.cell q (by omega)
              have R1 := Lib.hid (show Row (wo.setCell ⟨w4.heap.size, q, none⟩ (.int .i64 x)) w4.heap.size n4 (plA n4 P S (k + 1)).f by rw [NX.out.2.2]; exact HRO.out.set q x)
              have B7 := Lib.hid (HB.out.setCell (p := ⟨w4.heap.size, q, none⟩) (Nat.le_refl _) (.int .i64 x))
              clear NR NL HRO HB HOK
              go_wp2
              go_roundw
              case rel => exact ⟨k + 1, by omega, by omega, by go_num, by rw [NX.out.1], by rw [NX.out.2.1], R1.out, B7.out⟩
              case measure => simp [intOf]; try omega
          · by_cases hqn : (q : Int) < (n4 : Int)
            · rcases Nat.mod_two_eq_zero_or_one k with hm | hm
              · have et : (k : Int).tmod 2 = 0 := by rw [show (2 : Int) = ((2 : Nat) : Int) from rfl, ← Int.ofNat_tmod, hm]; rfl
                have HC := Lib.hid (show ¬ (((q : Int) < n4 ∧ k % 2 = 1) ∨ Lf < 0) by omega)
                clear hm t4
                have NX := Lib.hid (NL.out HC.out)
                obtain ⟨j, hj⟩ : ∃ j : Nat, Lf = j := ⟨Lf.toNat, by omega⟩
                subst hj
                have FO := HRO.out.free j
                have hjn : (j : Int) < (n4 : Int) := by omega
                have CO := HRO.out.cell j (by omega)
                have R1 := Lib.hid (show Row (wo.setCell ⟨w4.heap.size, j, none⟩ (.int .i64 x)) w4.heap.size n4 (plA n4 P S (k + 1)).f by rw [NX.out.2.2]; exact HRO.out.set j x)
                have B7 := Lib.hid (HB.out.setCell (p := ⟨w4.heap.size, j, none⟩) (Nat.le_refl _) (.int .i64 x))
                clear NR NL HRO HB HOK
                go_wp2
                go_roundw
                case rel => exact ⟨k + 1, by omega, by omega, by go_num, by rw [NX.out.1], by rw [NX.out.2.1], R1.out, B7.out⟩
                case measure => simp [intOf]; try omega
              · have et : (k : Int).tmod 2 = 1 := by rw [show (2 : Int) = ((2 : Nat) : Int) from rfl, ← Int.ofNat_tmod, hm]; rfl
                have HC := Lib.hid (show (((q : Int) < n4 ∧ k % 2 = 1) ∨ Lf < 0) by omega)
                clear hm t4
                have NX := Lib.hid (NR.out HC.out)
                have FO := HRO.out.free q
                have CO := HRO.out.cell q (by omega)
                have R1 := Lib.hid (show Row (wo.setCell ⟨w4.heap.size, q, none⟩ (.int .i64 x)) w4.heap.size n4 (plA n4 P S (k + 1)).f by rw [NX.out.2.2]; exact HRO.out.set q x)
                have B7 := Lib.hid (HB.out.setCell (p := ⟨w4.heap.size, q, none⟩) (Nat.le_refl _) (.int .i64 x))
                clear NR NL HRO HB HOK
                go_wp2
                go_roundw
                case rel => exact ⟨k + 1, by omega, by omega, by go_num, by rw [NX.out.1], by rw [NX.out.2.1], R1.out, B7.out⟩
                case measure => simp [intOf]; try omega
            · have HC := Lib.hid (show ¬ (((q : Int) < n4 ∧ k % 2 = 1) ∨ Lf < 0) by omega)
              clear t4
              have NX := Lib.hid (NL.out HC.out)
              obtain ⟨j, hj⟩ : ∃ j : Nat, Lf = j := ⟨Lf.toNat, by omega⟩
              subst hj
              have FO := HRO.out.free j
              have hjn : (j : Int) < (n4 : Int) := by omega
              have CO := HRO.out.cell j (by omega)
              have R1 := Lib.hid (show Row (wo.setCell ⟨w4.heap.size, j, none⟩ (.int .i64 x)) w4.heap.size n4 (plA n4 P S (k + 1)).f by rw [NX.out.2.2]; exact HRO.out.set j x)
              have B7 := Lib.hid (HB.out.setCell (p := ⟨w4.heap.size, j, none⟩) (Nat.le_refl _) (.int .i64 x))
              clear NR NL HRO HB HOK
              go_wp2
              go_roundw
              case rel => exact ⟨k + 1, by omega, by omega, by go_num, by rw [NX.out.1], by rw [NX.out.2.1], R1.out, B7.out⟩
              case measure => simp [intOf]; try omega
        · obtain rfl : k = n4 := by omega
          have RG := Lib.hid (plA_rng (n := k) (p := P) (S := S) (a := -9223372036854775808) (b := 9223372036854775807) (by omega) k (fun j hj => by obtain ⟨i, i1, i2⟩ := DO.out.2.2 j hj; rw [i2]; exact RL.out i i1))
          have RI := Lib.hid (HRO.out.ints (Nat.le_refl k) (by omega) (by omega) (fun i _ => RG.out i))
          have hz := Z4.out.below HB.out Z4.out.b.lt
          have F := finSg hz hWW (below_then B4.out HB.out B4.out.size) ⟨f, st, placL L P⟩ 0 (by rw [← DescOf.placL LB.out DO.out]; exact RI.out) (fun ad e => by injection e with e; subst e; exact hsz)
          obtain ⟨z0, z1, z2, f0, f1', f2, zl⟩ := hz.cells
          clear HRO RG hz RI
          dsimp only at F
          go_wp2
          have q := F.out
          generalize ((wo.setCell ⟨W0.heap.size, 0, none⟩ (.int .i64 f)).setCell ⟨W0.heap.size, 1, none⟩ (.int .i64 st)).setCell ⟨W0.heap.size, 2, none⟩ (.slice (some ⟨w4.heap.size, 0, none⟩) k k) = W9 at *
          obtain ⟨⟨⟨q0, q1, q2, -⟩, -, -, -, -⟩, q3⟩ := q
          exact bodyPost_ret (v := .tuple #[serA f st (some ⟨w4.heap.size, 0, none⟩) k k, .int .i64 0]) (by simp [results, Try.results20, go_sem, q0, q1, q2]) rfl q3
    · rw [if_neg (by unfold ixB; rw [Bool.and_eq_true, decide_eq_true_eq, decide_eq_true_eq]; exact hp)] at hV
      subst hV
      clear PC OKG HV hst he so P1
      by_cases hp0 : p < 0
      · go_enter Try.func20, Try.ntmps20
        go_wp2_with fail
        refine (GC.out).mono ?_
        rintro e w2 ⟨rfl, b2⟩
        have hz := Z1.out.below b2 Z1.out.b.lt
        have F := fin0g hz hWW (below_then B1.out b2 B1.out.size) 2
        obtain ⟨z0, z1, z2, f0, f1, f2, zl⟩ := hz.cells
        clear b2 hz k0 k1 k2
        go_wp2
        have q := F.out
        generalize ((w2.setCell ⟨W0.heap.size, 0, none⟩ (.int .i64 0)).setCell ⟨W0.heap.size, 1, none⟩ (.int .i64 0)).setCell ⟨W0.heap.size, 2, none⟩ (.slice none 0 0) = W3 at *
        obtain ⟨⟨⟨q0, q1, q2, -⟩, -, -, -, -⟩, q3⟩ := q
        exact bodyPost_ret (v := .tuple #[serA 0 0 none 0 0, .int .i64 2]) (by simp [results, Try.results20, go_sem, q0, q1, q2]) rfl q3
      · have hp2 : (N : Int) ≤ p := by omega
        go_enter Try.func20, Try.ntmps20
        go_wp2_with fail
        refine (GC.out).mono ?_
        rintro e w2 ⟨rfl, b2⟩
        have hz := Z1.out.below b2 Z1.out.b.lt
        have F := fin0g hz hWW (below_then B1.out b2 B1.out.size) 2
        obtain ⟨z0, z1, z2, f0, f1, f2, zl⟩ := hz.cells
        clear b2 hz k0 k1 k2
        go_wp2
        have q := F.out
        generalize ((w2.setCell ⟨W0.heap.size, 0, none⟩ (.int .i64 0)).setCell ⟨W0.heap.size, 1, none⟩ (.int .i64 0)).setCell ⟨W0.heap.size, 2, none⟩ (.slice none 0 0) = W3 at *
        obtain ⟨⟨⟨q0, q1, q2, -⟩, -, -, -, -⟩, q3⟩ := q
        exact bodyPost_ret (v := .tuple #[serA 0 0 none 0 0, .int .i64 2]) (by simp [results, Try.results20, go_sem, q0, q1, q2]) rfl q3
  · rw [if_neg hg] at hV
    subst hV
    have g1 : ((g : Int) != 0) = true := by simp; exact hg
    have g2 : ((g : Int) == 0) = false := by simp; exact hg
    clear PC OKG HV
    go_enter Try.func20, Try.ntmps20
    go_wp2_with fail
    refine (GC.out).mono ?_
    rintro e w2 ⟨rfl, b2⟩
    have hz := Z1.out.below b2 Z1.out.b.lt
    have F := fin0g hz hWW (below_then B1.out b2 B1.out.size) g
    obtain ⟨z0, z1, z2, f0, f1, f2, zl⟩ := hz.cells
    clear b2 hz k0 k1 k2
    go_wp2
    have q := F.out
    generalize ((w2.setCell ⟨W0.heap.size, 0, none⟩ (.int .i64 0)).setCell ⟨W0.heap.size, 1, none⟩ (.int .i64 0)).setCell ⟨W0.heap.size, 2, none⟩ (.slice none 0 0) = W3 at *
    obtain ⟨⟨⟨q0, q1, q2, -⟩, -, -, -, -⟩, q3⟩ := q
    exact bodyPost_ret (v := .tuple #[serA 0 0 none 0 0, .int .i64 g]) (by simp [results, Try.results20, go_sem, q0, q1, q2]) rfl q3
end Go.Proofs.Ytfhikdgdckfalaa
