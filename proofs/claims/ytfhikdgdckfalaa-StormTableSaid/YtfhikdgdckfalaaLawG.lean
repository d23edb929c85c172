/- The law StormTable returns true. -/
import Derived.Test.YtfhikdgdckfalaaMB18
import Derived.Test.YtfhikdgdckfalaaMB13
import Derived.Test.YtfhikdgdckfalaaMB14
import Derived.Test.YtfhikdgdckfalaaGivR
import Derived.Test.YtfhikdgdckfalaaBlkR
import Derived.Test.YtfhikdgdckfalaaNest
import Derived.Test.YtfhikdgdckfalaaTotLaw
import Derived.Test.YtfhikdgdckfalaaMonoLaw
import Derived.Test.YtfhikdgdckfalaaGreat
import Derived.Test.YtfhikdgdckfalaaIsSort
import Derived.Test.YtfhikdgdckfalaaBig
import Derived.Deep.RegionHeld3
namespace Go.Proofs.Ytfhikdgdckfalaa
open Go.RowKit
set_option linter.unusedVariables false

/-- What the storms of a table are. -/
structure TabL (L K : List Int) (C : Nat → Int) (T : Nat → Int) (N P : Nat) : Prop where
  lL : L.length = N
  lK : K.length = N
  rL : ∀ z ∈ L, 0 ≤ z ∧ z ≤ 4194304
  rK : ∀ z ∈ K, 0 ≤ z ∧ z ≤ 4194304
  ne : nestV K = true
  pk : el K P = maxL L
  gK : ∀ k, 1 ≤ k → k ≤ N → grL K k = T k
  gL : ∀ k, 1 ≤ k → k ≤ N → grL L k ≤ T k
  ge : ∀ k, 1 ≤ k → k ≤ N → C k ≤ T k
  de : DesL L → ∀ k, 1 ≤ k → k ≤ N → C k = T k
  ru : ∀ k, 1 ≤ k → k ≤ N → runV L 0 k = C k
  al : runV K 0 N = C N
theorem tabL {ds ps : List Int} {rows : List (List Int)} (ok : VOk ds ps rows) {y st : Int} {N P : Nat} (hs : 0 ≤ st) (he : endsB ds ps y st N = true) (hP : P < N) : TabL (blkL ds ps rows y st N) (placL (blkL ds ps rows y st N) P) (cumV ds ps rows y st) (topV (blkL ds ps rows y st N)) N P := by
  have lL : (blkL ds ps rows y st N).length = N := by unfold blkL; exact fl_length _ _
  have hR := fun k (hk : k < N) => blk_rng ok hs he hk
  have ru := fun k (hk : k ≤ N) => blk_run ok hs he hk
  generalize blkL ds ps rows y st N = L at *
  generalize cumV ds ps rows y st = C at *
  subst lL
  refine ⟨rfl, placL_len, fun z hz => ?_, plac_rng hP (by omega) hR, plac_nests hP, plac_peak hP, fun k h1 h2 => gr_K hP h1 h2, fun k h1 h2 => gr_L h1 h2, fun k h1 h2 => ?_, fun hd k h1 h2 => ?_, fun k _ h2 => ru k h2, ?_⟩
  · obtain ⟨j, hj, rfl⟩ := mem_el hz
    exact hR j hj
  · rw [← ru k h2]; exact top_L h1 (by omega)
  · rw [← ru k h2]; exact top_des hd k
  · rw [← ru _ (Nat.le_refl _), top_all]
    have h := top_at hP (k := L.length) (by omega) (Nat.le_refl _)
    rw [aW_all _ hP] at h
    exact h

/-- The world of the last region. -/
structure TbW (w W : World) (g : Nat) (A0 : Option Addr) (n0 c0 : Nat) (A1 : Option Addr) (n1 c1 : Nat) (A2 : Option Addr) (n2 c2 : Nat) (s : SerD) (A : Option Addr) (n c : Nat) : Prop where
  k : KSer W g s A n c
  x : HBox W w.heap.size (.slice A0 n0 c0) (.slice A1 n1 c1) (.slice A2 n2 c2)
  b : Below w.heap.size w W
theorem TbW.below {w W W' : World} {g : Nat} {A0 : Option Addr} {n0 c0 : Nat} {A1 : Option Addr} {n1 c1 : Nat} {A2 : Option Addr} {n2 c2 : Nat} {s : SerD} {A : Option Addr} {n c : Nat} (h : TbW w W g A0 n0 c0 A1 n1 c1 A2 n2 c2 s A n c) (hb : Below W.heap.size W W') : TbW w W' g A0 n0 c0 A1 n1 c1 A2 n2 c2 s A n c :=
  ⟨h.k.below hb, h.x.below hb h.x.lt, below_then h.b hb h.b.size⟩
theorem TbW.cells {w W : World} {g : Nat} {A0 : Option Addr} {n0 c0 : Nat} {A1 : Option Addr} {n1 c1 : Nat} {A2 : Option Addr} {n2 c2 : Nat} {s : SerD} {A : Option Addr} {n c : Nat} (h : TbW w W g A0 n0 c0 A1 n1 c1 A2 n2 c2 s A n c) : W.cell? ⟨g, 2, none⟩ = some (.slice A n c) ∧ W.cell? ⟨w.heap.size, 0, none⟩ = some (.slice A0 n0 c0) ∧ W.cell? ⟨w.heap.size, 1, none⟩ = some (.slice A1 n1 c1) ∧ W.cell? ⟨w.heap.size, 2, none⟩ = some (.slice A2 n2 c2) :=
  ⟨h.k.b.c2, h.x.c0, h.x.c1, h.x.c2⟩

set_option maxHeartbeats 8000000 in
set_option maxRecDepth 100000 in
theorem Table_yes {A0 A1 A2 : Option Addr} {n0 c0 n1 c1 n2 c2 : Nat} {ds ps : List Int} {rows : List (List Int)} (y f st : Int) (N P : Nat) (w : World) (h0 : Ints w A0 n0 c0 ds) (h1 : Ints w A1 n1 c1 ps) (h2 : Tab w A2 n2 c2 rows) (ok : VOk ds ps rows)
    (hN : N ≤ 30) (hP : P < N) (hst : stB f st N = true) (he : endsB ds ps y st N = true) :
    Calls Try.prog 7 #[tabA A0 n0 c0 A1 n1 c1 A2 n2 c2, .int .i64 y, .int .i64 f, .int .i64 st, .int .i64 N, .int .i64 P] w fun e w' => e = .returned (.bool true) ∧ Below w.heap.size w w' := by
  have hv : true = true ↔ VOk ds ps rows := by simp [ok]
  have so := stB_iff.1 hst
  have s00 : 1 ≤ st := so.s0
  have s01 : st ≤ 86400 := so.s1
  have TL := Lib.hid (tabL (rows := rows) ok (show 0 ≤ st by omega) he hP)
  obtain ⟨W0, hW0⟩ : ∃ W0, w.alloc (tabO A0 n0 c0 A1 n1 c1 A2 n2 c2) = W0 := ⟨_, rfl⟩
  have hb0 : Below w.heap.size w W0 := by rw [← hW0]; exact (Below.refl _ _).alloc (Nat.le_refl _) _
  have X0 := Lib.hid (show HBox W0 w.heap.size (.slice A0 n0 c0) (.slice A1 n1 c1) (.slice A2 n2 c2) by rw [← hW0]; exact HBox.made _ _ _ _ _)
  have B0 := Lib.hid hb0
  have BG := Lib.hid (fun W (B : Below w.heap.size w W) => big_calls W (h0.below B) (h1.below B) (h2.below B))
  have g0 : givV true ds ps y f st N = 0 := by unfold givV; rw [if_neg (by simp), Int.toNat_natCast, if_neg (by rw [hst, he]; simp)]
  have gc := fun W (B : Below w.heap.size w W) => Given_calls true y f st N W (h0.below B) (h1.below B) (h2.below B) hv
  rw [g0] at gc
  have GC := Lib.hid gc
  have m1 := made_giv true ds ps rows y f st N P true
  rw [if_pos g0, if_pos (by unfold ixB; rw [decide_eq_true (by omega), decide_eq_true (by omega)]; rfl), Int.toNat_natCast, Int.toNat_natCast] at m1
  simp only [if_true] at m1
  have m2 := made_giv true ds ps rows y f st N 0 false
  rw [if_pos g0, if_pos (by unfold ixB; rw [decide_eq_true (by omega), decide_eq_true (by omega)]; rfl), Int.toNat_natCast] at m2
  simp only [Bool.false_eq_true, if_false] at m2
  have s1 := fun W (B : Below w.heap.size w W) => Alternating_calls true y f st N P W (h0.below B) (h1.below B) (h2.below B) hv
  rw [m1] at s1
  have s2 := fun W (B : Below w.heap.size w W) => Blocks_calls true y f st N W (h0.below B) (h1.below B) (h2.below B) hv
  rw [m2] at s2
  have S1 := Lib.hid s1
  have S2 := Lib.hid s2
  have DF := Lib.hid (fun (x : Int) W (B : Below w.heap.size w W) (hi : inT ds ps x y = true) => (by
    unfold inT at hi
    rw [Bool.and_eq_true] at hi
    have d0 : 0 < ds.length := by have := ok.1.2.2.1; omega
    have p0 : 0 < ps.length := by have := ok.2.1.2.2.1; omega
    have e1 := (plc_in ok.tok.da d0).1 hi.1
    have e2 := (plc_in ok.tok.pa p0).1 hi.2
    exact DepthR_calls x y W (h0.below B) (h1.below B) (h2.below B) ok.tok ⟨d0, e1.1, e1.2⟩ ⟨p0, e2.1, e2.2⟩ :
      Calls Try.prog 31 #[tabA A0 n0 c0 A1 n1 c1 A2 n2 c2, .int .i64 x, .int .i64 y] W fun e w' => (∃ hi : Int, e = .returned (.agg #[.int .i64 (loV ds ps rows y x : Nat), .int .i64 hi])) ∧ Below W.heap.size W w'))
  have EJ := Lib.hid (fun k (k1 : 1 ≤ k) (k2 : k ≤ N) => ends_in (k := k) ok.1.asc (by have := ok.1.2.2.1; omega) (show 0 ≤ st by omega) he k1 k2)
  have CE := Lib.hid (fun k (k1 : 1 ≤ k) (k2 : k ≤ N) => (show cumV ds ps rows y st k = (loV ds ps rows y ((k : Int) * st) : Nat) by unfold cumV; rw [if_neg (by omega)]))
  have CB := Lib.hid (fun k (k2 : k ≤ N) => cum_le (k := k) ok (show 0 ≤ st by omega) he k2)
  have HST := Lib.hid hst
  generalize blkL ds ps rows y st N = L at *
  generalize placL L P = K at *
  generalize topV L = T at *
  generalize cumV ds ps rows y st = C at *
  have V1 : Hid (validS f st K = true) := Lib.hid (valid_of HST.out TL.out.lK TL.out.rK)
  have V2 : Hid (validS f st L = true) := Lib.hid (valid_of HST.out TL.out.lL TL.out.rL)
  have q1 : (N : Int) ≤ 30 := by omega
  have q2 : (P : Int) < (N : Int) := by omega
  clear h0 h1 h2 hb0 hv gc g0 s1 s2 m1 m2 ok hst he so
  go_enter Try.func7, Try.ntmps7
  go_wp2_with fail
  refine (awake_calls _).mono ?_
  rintro e w1 ⟨rfl, b1⟩
  have B1 := Lib.hid (below_then B0.out b1 B0.out.size)
  have X1 := Lib.hid (X0.out.below b1 (by rw [← hW0]; simp))
  obtain ⟨m0, m1, m2⟩ : w1.cell? ⟨w.heap.size, 0, none⟩ = some (.slice A0 n0 c0) ∧ w1.cell? ⟨w.heap.size, 1, none⟩ = some (.slice A1 n1 c1) ∧ w1.cell? ⟨w.heap.size, 2, none⟩ = some (.slice A2 n2 c2) := ⟨X1.out.c0, X1.out.c1, X1.out.c2⟩
  clear b1
  go_wp2_with fail
  refine (BG.out _ B1.out).mono ?_
  rintro e w2 ⟨⟨b, rfl⟩, b2⟩
  have B2 := Lib.hid (below_then B1.out b2 B1.out.size)
  have X2 := Lib.hid (X1.out.below b2 X1.out.lt)
  clear b2 m0 m1 m2 X1 B1 X0
  obtain ⟨m0, m1, m2⟩ : w2.cell? ⟨w.heap.size, 0, none⟩ = some (.slice A0 n0 c0) ∧ w2.cell? ⟨w.heap.size, 1, none⟩ = some (.slice A1 n1 c1) ∧ w2.cell? ⟨w.heap.size, 2, none⟩ = some (.slice A2 n2 c2) := ⟨X2.out.c0, X2.out.c1, X2.out.c2⟩
  cases b
  case true =>
    go_wp2
    go_ret
    exact ⟨rfl, B2.out⟩
  go_wp2_with fail
  refine (GC.out _ B2.out).mono ?_
  rintro e w3 ⟨rfl, b3⟩
  have B3 := Lib.hid (below_then B2.out b3 B2.out.size)
  have X3 := Lib.hid (X2.out.below b3 X2.out.lt)
  clear b3 m0 m1 m2 X2 B2
  obtain ⟨m0, m1, m2⟩ : w3.cell? ⟨w.heap.size, 0, none⟩ = some (.slice A0 n0 c0) ∧ w3.cell? ⟨w.heap.size, 1, none⟩ = some (.slice A1 n1 c1) ∧ w3.cell? ⟨w.heap.size, 2, none⟩ = some (.slice A2 n2 c2) := ⟨X3.out.c0, X3.out.c1, X3.out.c2⟩
  go_wp2_with fail
  refine (S1.out _ B3.out).mono ?_
  rintro e w4' ⟨A3, n3, c3, rfl, i4, b4, -⟩
  obtain ⟨w4, hW4, k4, b4'⟩ := keep_ser i4 b4
  dsimp only at hW4
  have K4 := Lib.hid k4
  have X4 := Lib.hid (X3.out.below b4' X3.out.lt)
  have B4 := Lib.hid (below_then B3.out b4' B3.out.size)
  clear i4 b4 k4 b4' m0 m1 m2 X3 B3
  obtain ⟨m0, m1, m2⟩ : w4.cell? ⟨w.heap.size, 0, none⟩ = some (.slice A0 n0 c0) ∧ w4.cell? ⟨w.heap.size, 1, none⟩ = some (.slice A1 n1 c1) ∧ w4.cell? ⟨w.heap.size, 2, none⟩ = some (.slice A2 n2 c2) := ⟨X4.out.c0, X4.out.c1, X4.out.c2⟩
  go_wp2_with fail
  refine (S2.out _ B4.out).mono ?_
  rintro e w5' ⟨A4, n4, c4, rfl, i5, b5, -⟩
  obtain ⟨w5, hW5, k5, b5'⟩ := keep_ser i5 b5
  dsimp only at hW5
  have K5 := Lib.hid k5
  have K4 := Lib.hid (K4.out.below b5')
  have X5 := Lib.hid (X4.out.below b5' X4.out.lt)
  have B5 := Lib.hid (below_then B4.out b5' B4.out.size)
  clear i5 b5 k5 b5' m0 m1 m2 X4 B4 hW4 S1 S2 BG GC
  obtain rfl : n3 = N := by rw [← K4.out.i.len]; exact TL.out.lK
  obtain rfl : n4 = n3 := by rw [← K5.out.i.len]; exact TL.out.lL
  obtain ⟨a0, a1, a2⟩ := K4.out.cells
  obtain ⟨d0, d1, d2⟩ := K5.out.cells
  dsimp only at a0 a1 a2 d0 d1 d2
  have rv1 := rValid_calls f st w5 K4.out.i
  dsimp only at rv1
  rw [V1.out] at rv1
  have RV1 := Lib.hid rv1
  clear rv1
  go_wp2_with fail
  refine (RV1.out).mono ?_
  rintro e w6 ⟨rfl, b6⟩
  have K4 := Lib.hid (K4.out.below b6)
  have K5 := Lib.hid (K5.out.below b6)
  have X6 := Lib.hid (X5.out.below b6 X5.out.lt)
  have B6 := Lib.hid (below_then B5.out b6 B5.out.size)
  clear b6 a0 a1 a2 d0 d1 d2 RV1 X5 B5
  obtain ⟨d0, d1, d2⟩ := K5.out.cells
  dsimp only at d0 d1 d2
  have rv2 := rValid_calls f st w6 K5.out.i
  dsimp only at rv2
  rw [V2.out] at rv2
  have RV2 := Lib.hid rv2
  clear rv2
  go_wp2_with fail
  refine (RV2.out).mono ?_
  rintro e w7 ⟨rfl, b7⟩
  have K4 := Lib.hid (K4.out.below b7)
  have K5 := Lib.hid (K5.out.below b7)
  have X7 := Lib.hid (X6.out.below b7 X6.out.lt)
  have B7 := Lib.hid (below_then B6.out b7 B6.out.size)
  clear b7 d0 d1 d2 RV2 X6 B6
  obtain ⟨a0, a1, a2⟩ := K4.out.cells
  dsimp only at a0 a1 a2
  have ne := Nested_calls f st w7 K4.out.i
  dsimp only at ne
  rw [V1.out, if_pos rfl, TL.out.ne] at ne
  have NE := Lib.hid ne
  clear ne
  go_wp2_with fail
  refine (NE.out).mono ?_
  rintro e w8 ⟨rfl, b8⟩
  have K4 := Lib.hid (K4.out.below b8)
  have K5 := Lib.hid (K5.out.below b8)
  have X8 := Lib.hid (X7.out.below b8 X7.out.lt)
  have B8 := Lib.hid (below_then B7.out b8 B7.out.size)
  clear b8 a0 a1 a2 NE X7 B7
  obtain ⟨a0, a1, a2⟩ := K4.out.cells
  obtain ⟨d0, d1, d2⟩ := K5.out.cells
  obtain ⟨ad, rfl, hla, hca⟩ := K4.out.i.at_ (k := P) hP
  dsimp only at a0 a1 a2 d0 d1 d2 hca
  rw [TL.out.pk] at hca
  have MX : Hid (∀ j, Calls Try.prog 24 #[.slice A4 n4 c4] (w8.drewN j) fun e w'' => e = .returned (.int .i64 (maxL L)) ∧ ∃ m, w'' = w8.drewN m) := Lib.hid fun j => (Max_calls (w8.drewN j) (K5.out.i.drewN j) (by omega)).mono fun e w' h => ⟨h.1, j, h.2.symm⟩
  generalize maxL L = M at *
  have hMM : ((M : Int) != M) = false := by simp
  go_wp2_with fail
  go_quiet ((go_at_call 24; exact MX.out _))
  have K4 := Lib.hid (K4.out.below (below_drewN (Below.refl _ _) nq))
  have K5 := Lib.hid (K5.out.below (below_drewN (Below.refl _ _) nq))
  have X9 := Lib.hid (X8.out.below (below_drewN (Below.refl _ _) nq) X8.out.lt)
  have B9 := Lib.hid (below_drewN B8.out nq)
  clear MX a0 a1 a2 d0 d1 d2 X8 B8 hca hla hMM
  generalize w8.drewN nq = w9 at *
  obtain ⟨d0, d1, d2⟩ := K5.out.cells
  dsimp only at d0 d1 d2
  have IC := Lib.hid (isSorted_calls w9 K5.out.i (fun k hk => TL.out.rL _ (el_mem hk)) (by omega) (by omega))
  go_wp2_with fail
  refine (IC.out).mono ?_
  rintro e w10' ⟨bd, rfl, hdes, dd, rfl⟩
  have HDE := Lib.hid hdes
  have K4 := Lib.hid (K4.out.below (below_drewN (Below.refl _ _) dd))
  have K5 := Lib.hid (K5.out.below (below_drewN (Below.refl _ _) dd))
  have X10 := Lib.hid (X9.out.below (below_drewN (Below.refl _ _) dd) X9.out.lt)
  have B10 := Lib.hid (below_drewN B9.out dd)
  clear IC d0 d1 d2 X9 B9 hdes
  generalize w9.drewN dd = w10 at *
  have hg3 : w4'.heap.size < w10.heap.size := K4.out.b.lt
  have hg4 : w5'.heap.size < w10.heap.size := K5.out.b.lt
  go_wp2
  go_loopw [20] (fun vk wr => ∃ k : Nat, vk = .int .i64 k ∧ 1 ≤ k ∧ k ≤ n4 + 1 ∧ KSer wr w4'.heap.size ⟨f, st, K⟩ (some ad) n4 c3 ∧ KSer wr w5'.heap.size ⟨f, st, L⟩ A4 n4 c4 ∧ HBox wr w.heap.size (.slice A0 n0 c0) (.slice A1 n1 c1) (.slice A2 n2 c2) ∧ Below w.heap.size w wr) (fun vk _ => n4 + 1 - (intOf vk).toNat)
  case atStart => exact ⟨1, rfl, by omega, by omega, K4.out, K5.out, X10.out, B10.out⟩
  case round =>
    clear K4 K5 X10 B10 hg3 hg4
    obtain ⟨k, rfl, k1, k2, hk4, hk5, hx, hb⟩ := hrel
    generalize wr = wo at *
    have K4 := Lib.hid hk4
    have K5 := Lib.hid hk5
    have HX := Lib.hid hx
    have HB := Lib.hid hb
    clear hk4 hk5 hx hb
    obtain ⟨m0, m1, m2⟩ : wo.cell? ⟨w.heap.size, 0, none⟩ = some (.slice A0 n0 c0) ∧ wo.cell? ⟨w.heap.size, 1, none⟩ = some (.slice A1 n1 c1) ∧ wo.cell? ⟨w.heap.size, 2, none⟩ = some (.slice A2 n2 c2) := ⟨HX.out.c0, HX.out.c1, HX.out.c2⟩
    by_cases hlt : (k : Int) ≤ (n4 : Int)
    · have x0 : 1 * 1 ≤ (k : Int) * st := Int.mul_le_mul (by omega) (by omega) (by omega) (by omega)
      have x1 : (k : Int) * st ≤ 30 * 86400 := Int.mul_le_mul (by omega) (by omega) (by omega) (by omega)
      have hin := EJ.out k k1 (by omega)
      have DC := Lib.hid (DF.out ((k : Int) * st) wo HB.out hin)
      have ce := CE.out k k1 (by omega)
      have cb := CB.out k (by omega)
      obtain ⟨X, hXe⟩ : ∃ X, (k : Int) * st = X := ⟨_, rfl⟩
      rw [hXe] at x0 x1 DC ce
      rw [ce] at cb
      have t1 := TL.out.ge k k1 (by omega)
      have t2 := TL.out.gL k k1 (by omega)
      have t3 : bd = true → (loV ds ps rows y X : Nat) = T k := fun h => by rw [← ce]; exact TL.out.de (HDE.out h) k k1 (by omega)
      have t4 := TL.out.ru k k1 (by omega)
      have t5 := TL.out.gK k k1 (by omega)
      rw [ce] at t1 t4
      have G1 := Lib.hid (fun W (I : Ints W (some ad) n4 c3 K) => Greatest_calls k W I (fun z hz => (TL.out.rK z hz).2) (by omega) k1 (by omega))
      have G2 := Lib.hid (fun W (I : Ints W A4 n4 c4 L) => Greatest_calls k W I (fun z hz => (TL.out.rL z hz).2) (by omega) k1 (by omega))
      have rn := fun W (I : Ints W A4 n4 c4 L) => Run_calls 0 k W I (fun z hz => (TL.out.rL z hz).2) (by omega) k1 (by omega)
      rw [t4] at rn
      have RN := Lib.hid rn
      rw [t5] at G1
      generalize loV ds ps rows y X = l1 at *
      generalize grL L k = Y at *
      generalize T k = t at *
      clear t4 t5 rn hin ce
      have hfd : ∀ (h : Int) (w : World), (Instr.field 54 (.agg #[.int .i64 (l1 : Nat), .int .i64 h]) 0).run Try.prog w = .ok (.int .i64 (l1 : Nat)) w := fun _ _ => by kernel_rfl
      go_wp2_with fail
      refine (DC.out).mono ?_
      rintro e w11 ⟨⟨l2, rfl⟩, b11⟩
      have K4 := Lib.hid (K4.out.below b11)
      have K5 := Lib.hid (K5.out.below b11)
      have X11 := Lib.hid (HX.out.below b11 HX.out.lt)
      have B11 := Lib.hid (below_then HB.out b11 HB.out.size)
      have hfd := hfd l2
      obtain ⟨a0, a1, a2⟩ := K4.out.cells
      obtain ⟨d0, d1, d2⟩ := K5.out.cells
      dsimp only at a0 a1 a2 d0 d1 d2
      clear b11 m0 m1 m2 DC HX HB
      have Q1 : Hid (∀ j, Calls Try.prog 32 #[.slice (some ad) n4 c3, .int .i64 k] (w11.drewN j) fun e w'' => e = .returned (.int .i64 t) ∧ ∃ m, w'' = w11.drewN m) := Lib.hid fun j => (G1.out (w11.drewN j) (K4.out.i.drewN j)).mono fun e w' h => ⟨h.1, j, h.2.symm⟩
      have Q2 : Hid (∀ j, Calls Try.prog 32 #[.slice A4 n4 c4, .int .i64 k] (w11.drewN j) fun e w'' => e = .returned (.int .i64 Y) ∧ ∃ m, w'' = w11.drewN m) := Lib.hid fun j => (G2.out (w11.drewN j) (K5.out.i.drewN j)).mono fun e w' h => ⟨h.1, j, h.2.symm⟩
      clear G1 G2
      go_wp2_with fail
      go_quiet ((go_at_call 32; (first | with_reducible exact Q1.out _ | with_reducible exact Q2.out _)))
      have K4 := Lib.hid (K4.out.below (below_drewN (Below.refl _ _) nq))
      have K5 := Lib.hid (K5.out.below (below_drewN (Below.refl _ _) nq))
      have X12 := Lib.hid (X11.out.below (below_drewN (Below.refl _ _) nq) X11.out.lt)
      have B12 := Lib.hid (below_drewN B11.out nq)
      clear Q1 Q2 a0 a1 a2 d0 d1 d2 X11 B11
      generalize w11.drewN nq = w12 at *
      obtain ⟨d0, d1, d2⟩ := K5.out.cells
      dsimp only at d0 d1 d2
      have u1 : ¬ t < (l1 : Int) := by omega
      have u2 : ¬ t < Y := by omega
      clear t1 t2 hXe x0 x1
      cases bd
      · clear t3
        go_wp2_with fail
        refine (RN.out _ K5.out.i).mono ?_
        rintro e w13 ⟨rfl, rfl⟩
        go_wp2
        go_roundw
        case rel => exact ⟨k + 1, by go_num, by omega, by omega, K4.out, K5.out, X12.out, B12.out⟩
        case measure => simp [intOf]; try omega
      · have t6 : t = (l1 : Int) := (t3 rfl).symm
        subst t6
        have u3 : (((l1 : Nat) : Int) != ((l1 : Nat) : Int)) = false := by simp
        clear t3
        go_wp2_with fail
        refine (RN.out _ K5.out.i).mono ?_
        rintro e w13 ⟨rfl, rfl⟩
        go_wp2
        go_roundw
        case rel => exact ⟨k + 1, by go_num, by omega, by omega, K4.out, K5.out, X12.out, B12.out⟩
        case measure => simp [intOf]; try omega
    · have hkn : k = n4 + 1 := by omega
      have hn1 : 1 ≤ n4 := by omega
      have x0 : 1 * 1 ≤ (n4 : Int) * st := Int.mul_le_mul (by omega) (by omega) (by omega) (by omega)
      have x1 : (n4 : Int) * st ≤ 30 * 86400 := Int.mul_le_mul (by omega) (by omega) (by omega) (by omega)
      have hin := EJ.out n4 hn1 (Nat.le_refl _)
      have ce := CE.out n4 hn1 (Nat.le_refl _)
      have dc := fun W (B : Below w.heap.size w W) => DF.out ((n4 : Int) * st) W B hin
      have al := TL.out.al
      have rn := fun W (I : Ints W (some ad) n4 c3 K) => Run_calls 0 n4 W I (fun z hz => (TL.out.rK z hz).2) (by omega) hn1 (by omega)
      rw [al, ce] at rn
      obtain ⟨X, hXe⟩ : ∃ X, (n4 : Int) * st = X := ⟨_, rfl⟩
      rw [hXe] at x0 x1 dc rn
      have hXw : IntKind.i64.wrap X = X := IntWalk.i64_in _ (by omega)
      generalize loV ds ps rows y X = l1 at *
      have TW := Lib.hid (show TbW w wo w4'.heap.size A0 n0 c0 A1 n1 c1 A2 n2 c2 ⟨f, st, K⟩ (some ad) n4 c3 from ⟨K4.out, HX.out, HB.out⟩)
      have rn0 : ∀ W (I : Ints W (some ad) n4 c3 K), Calls Try.prog 33 #[.slice (some ad) n4 c3, .int .i64 0, .int .i64 n4] W fun e w' => e = .returned (.int .i64 (l1 : Nat)) ∧ W = w' := fun W I => rn W I
      have R1 := Lib.hid (fun W (h : TbW w W w4'.heap.size A0 n0 c0 A1 n1 c1 A2 n2 c2 ⟨f, st, K⟩ (some ad) n4 c3) => (rn0 W h.k.i).mono fun e w' (hh : e = .returned (.int .i64 (l1 : Nat)) ∧ W = w') => And.intro hh.1 (show TbW w w' w4'.heap.size A0 n0 c0 A1 n1 c1 A2 n2 c2 ⟨f, st, K⟩ (some ad) n4 c3 from by rw [← hh.2]; exact h))
      have R2 := Lib.hid (fun W (h : TbW w W w4'.heap.size A0 n0 c0 A1 n1 c1 A2 n2 c2 ⟨f, st, K⟩ (some ad) n4 c3) => (dc W h.b).mono fun e w' hh => And.intro hh.1 (h.below hh.2))
      have HG := Lib.hid (fun n => TW.out.below (below_drewN (Below.refl _ _) n))
      have HD1 : Hid (TbW w wo.drew w4'.heap.size A0 n0 c0 A1 n1 c1 A2 n2 c2 ⟨f, st, K⟩ (some ad) n4 c3) := Lib.hid (HG.out 1)
      obtain ⟨y0, y1, y2, y3⟩ := TW.out.cells
      have hfd : ∀ (h : Int) (w : World), (Instr.field 54 (.agg #[.int .i64 (l1 : Nat), .int .i64 h]) 0).run Try.prog w = .ok (.int .i64 (l1 : Nat)) w := fun _ _ => by kernel_rfl
      have hll : (((l1 : Nat) : Int) == ((l1 : Nat) : Int)) = true := by simp
      clear rn rn0 dc al ce hin K4 K5 HX HB m0 m1 m2 hkn
      go_wp2_with fail
      go_region_held3 (fun w' => w'.cell? ⟨w4'.heap.size, 2, none⟩ = some (.slice (some ad) n4 c3) ∧ w'.cell? ⟨w.heap.size, 0, none⟩ = some (.slice A0 n0 c0) ∧ w'.cell? ⟨w.heap.size, 1, none⟩ = some (.slice A1 n1 c1) ∧ w'.cell? ⟨w.heap.size, 2, none⟩ = some (.slice A2 n2 c2)) (first | go_keep | exact TbW.cells (by assumption)) (first | (go_at_call 33; (with_reducible refine (R1.out _ (by first | assumption | exact HG.out _ | exact HD1.out)).mono ?_); rintro e vv ⟨rfl, hgd⟩) | (go_at_call 31; (with_reducible refine (R2.out _ (by first | assumption | exact HG.out _ | exact HD1.out)).mono ?_); rintro e vv ⟨⟨l2, rfl⟩, hgd⟩; have hfd := hfd l2))
      go_wp2_with fail
      go_ret
      exact ⟨rfl, TbW.b (by assumption)⟩

set_option maxHeartbeats 4000000 in
set_option maxRecDepth 100000 in
theorem Table_no {A0 A1 A2 : Option Addr} {n0 c0 n1 c1 n2 c2 : Nat} {ds ps : List Int} {rows : List (List Int)} (y f st n p : Int) (w : World) (h0 : Ints w A0 n0 c0 ds) (h1 : Ints w A1 n1 c1 ps) (h2 : Tab w A2 n2 c2 rows) (v : Bool) (hv : v = true ↔ VOk ds ps rows) (hno : ¬ (n ≤ 30 ∧ 0 ≤ p ∧ p < n ∧ givV v ds ps y f st n = 0)) :
    Calls Try.prog 7 #[tabA A0 n0 c0 A1 n1 c1 A2 n2 c2, .int .i64 y, .int .i64 f, .int .i64 st, .int .i64 n, .int .i64 p] w fun e w' => e = .returned (.bool true) ∧ Below w.heap.size w w' := by
  obtain ⟨W0, hW0⟩ : ∃ W0, w.alloc (tabO A0 n0 c0 A1 n1 c1 A2 n2 c2) = W0 := ⟨_, rfl⟩
  have hb0 : Below w.heap.size w W0 := by rw [← hW0]; exact (Below.refl _ _).alloc (Nat.le_refl _) _
  have X0 := Lib.hid (show HBox W0 w.heap.size (.slice A0 n0 c0) (.slice A1 n1 c1) (.slice A2 n2 c2) by rw [← hW0]; exact HBox.made _ _ _ _ _)
  have B0 := Lib.hid hb0
  have BG := Lib.hid (fun W (B : Below w.heap.size w W) => big_calls W (h0.below B) (h1.below B) (h2.below B))
  have GC := Lib.hid (fun W (B : Below w.heap.size w W) => Given_calls v y f st n W (h0.below B) (h1.below B) (h2.below B) hv)
  generalize givV v ds ps y f st n = g at *
  clear h0 h1 h2 hb0 hv
  by_cases q1 : 30 < n
  · clear BG GC X0
    go_enter Try.func7, Try.ntmps7
    go_wp2_with fail
    refine (awake_calls _).mono ?_
    rintro e w1 ⟨rfl, b1⟩
    have B1 := Lib.hid (below_then B0.out b1 B0.out.size)
    clear b1
    go_wp2
    go_ret
    exact ⟨rfl, B1.out⟩
  by_cases q2 : p < 0
  · clear GC
    go_enter Try.func7, Try.ntmps7
    go_wp2_with fail
    refine (awake_calls _).mono ?_
    rintro e w1 ⟨rfl, b1⟩
    have B1 := Lib.hid (below_then B0.out b1 B0.out.size)
    have X1 := Lib.hid (X0.out.below b1 (by rw [← hW0]; simp))
    obtain ⟨m0, m1, m2⟩ : w1.cell? ⟨w.heap.size, 0, none⟩ = some (.slice A0 n0 c0) ∧ w1.cell? ⟨w.heap.size, 1, none⟩ = some (.slice A1 n1 c1) ∧ w1.cell? ⟨w.heap.size, 2, none⟩ = some (.slice A2 n2 c2) := ⟨X1.out.c0, X1.out.c1, X1.out.c2⟩
    clear b1
    go_wp2_with fail
    refine (BG.out _ B1.out).mono ?_
    rintro e w2 ⟨⟨b, rfl⟩, b2⟩
    have B2 := Lib.hid (below_then B1.out b2 B1.out.size)
    have X2 := Lib.hid (X1.out.below b2 X1.out.lt)
    clear b2 m0 m1 m2 X1 B1 X0
    obtain ⟨m0, m1, m2⟩ : w2.cell? ⟨w.heap.size, 0, none⟩ = some (.slice A0 n0 c0) ∧ w2.cell? ⟨w.heap.size, 1, none⟩ = some (.slice A1 n1 c1) ∧ w2.cell? ⟨w.heap.size, 2, none⟩ = some (.slice A2 n2 c2) := ⟨X2.out.c0, X2.out.c1, X2.out.c2⟩
    cases b
    case true =>
      go_wp2
      go_ret
      exact ⟨rfl, B2.out⟩
    go_wp2
    go_ret
    exact ⟨rfl, B2.out⟩
  by_cases q3 : n ≤ p
  · clear GC
    go_enter Try.func7, Try.ntmps7
    go_wp2_with fail
    refine (awake_calls _).mono ?_
    rintro e w1 ⟨rfl, b1⟩
    have B1 := Lib.hid (below_then B0.out b1 B0.out.size)
    have X1 := Lib.hid (X0.out.below b1 (by rw [← hW0]; simp))
    obtain ⟨m0, m1, m2⟩ : w1.cell? ⟨w.heap.size, 0, none⟩ = some (.slice A0 n0 c0) ∧ w1.cell? ⟨w.heap.size, 1, none⟩ = some (.slice A1 n1 c1) ∧ w1.cell? ⟨w.heap.size, 2, none⟩ = some (.slice A2 n2 c2) := ⟨X1.out.c0, X1.out.c1, X1.out.c2⟩
    clear b1
    go_wp2_with fail
    refine (BG.out _ B1.out).mono ?_
    rintro e w2 ⟨⟨b, rfl⟩, b2⟩
    have B2 := Lib.hid (below_then B1.out b2 B1.out.size)
    have X2 := Lib.hid (X1.out.below b2 X1.out.lt)
    clear b2 m0 m1 m2 X1 B1 X0
    obtain ⟨m0, m1, m2⟩ : w2.cell? ⟨w.heap.size, 0, none⟩ = some (.slice A0 n0 c0) ∧ w2.cell? ⟨w.heap.size, 1, none⟩ = some (.slice A1 n1 c1) ∧ w2.cell? ⟨w.heap.size, 2, none⟩ = some (.slice A2 n2 c2) := ⟨X2.out.c0, X2.out.c1, X2.out.c2⟩
    cases b
    case true =>
      go_wp2
      go_ret
      exact ⟨rfl, B2.out⟩
    go_wp2
    go_ret
    exact ⟨rfl, B2.out⟩
  have hg : ¬ g = 0 := fun h => hno ⟨by omega, by omega, by omega, h⟩
  have g1 : ((g : Int) != 0) = true := by simp; exact hg
  have g2 : ((g : Int) == 0) = false := by simp; exact hg
  go_enter Try.func7, Try.ntmps7
  go_wp2_with fail
  refine (awake_calls _).mono ?_
  rintro e w1 ⟨rfl, b1⟩
  have B1 := Lib.hid (below_then B0.out b1 B0.out.size)
  have X1 := Lib.hid (X0.out.below b1 (by rw [← hW0]; simp))
  obtain ⟨m0, m1, m2⟩ : w1.cell? ⟨w.heap.size, 0, none⟩ = some (.slice A0 n0 c0) ∧ w1.cell? ⟨w.heap.size, 1, none⟩ = some (.slice A1 n1 c1) ∧ w1.cell? ⟨w.heap.size, 2, none⟩ = some (.slice A2 n2 c2) := ⟨X1.out.c0, X1.out.c1, X1.out.c2⟩
  clear b1
  go_wp2_with fail
  refine (BG.out _ B1.out).mono ?_
  rintro e w2 ⟨⟨b, rfl⟩, b2⟩
  have B2 := Lib.hid (below_then B1.out b2 B1.out.size)
  have X2 := Lib.hid (X1.out.below b2 X1.out.lt)
  clear b2 m0 m1 m2 X1 B1 X0
  obtain ⟨m0, m1, m2⟩ : w2.cell? ⟨w.heap.size, 0, none⟩ = some (.slice A0 n0 c0) ∧ w2.cell? ⟨w.heap.size, 1, none⟩ = some (.slice A1 n1 c1) ∧ w2.cell? ⟨w.heap.size, 2, none⟩ = some (.slice A2 n2 c2) := ⟨X2.out.c0, X2.out.c1, X2.out.c2⟩
  cases b
  case true =>
    go_wp2
    go_ret
    exact ⟨rfl, B2.out⟩
  go_wp2_with fail
  refine (GC.out _ B2.out).mono ?_
  rintro e w3 ⟨rfl, b3⟩
  have B3 := Lib.hid (below_then B2.out b3 B2.out.size)
  clear b3 m0 m1 m2
  go_wp2
  go_ret
  exact ⟨rfl, B3.out⟩

theorem Table_calls {A0 A1 A2 : Option Addr} {n0 c0 n1 c1 n2 c2 : Nat} {ds ps : List Int} {rows : List (List Int)} (y f st n p : Int) (w : World) (h0 : Ints w A0 n0 c0 ds) (h1 : Ints w A1 n1 c1 ps) (h2 : Tab w A2 n2 c2 rows)
    (by' : -9223372036854775808 ≤ y ∧ y ≤ 9223372036854775807) (bf : -9223372036854775808 ≤ f ∧ f ≤ 9223372036854775807) (bs : -9223372036854775808 ≤ st ∧ st ≤ 9223372036854775807) (bn : -9223372036854775808 ≤ n ∧ n ≤ 9223372036854775807) (bp : -9223372036854775808 ≤ p ∧ p ≤ 9223372036854775807) :
    Calls Try.prog 7 #[tabA A0 n0 c0 A1 n1 c1 A2 n2 c2, .int .i64 y, .int .i64 f, .int .i64 st, .int .i64 n, .int .i64 p] w fun e w' => e = .returned (.bool true) ∧ Below w.heap.size w w' := by
  obtain ⟨v, hv⟩ : ∃ v : Bool, (v = true ↔ VOk ds ps rows) := by
    by_cases h : VOk ds ps rows
    · exact ⟨true, by simp [h]⟩
    · exact ⟨false, by simp [h]⟩
  by_cases h : n ≤ 30 ∧ 0 ≤ p ∧ p < n ∧ givV v ds ps y f st n = 0
  · obtain ⟨a1, a2, a3, a4⟩ := h
    obtain ⟨e1, e2, e3⟩ := giv_ok a4
    obtain ⟨P, rfl⟩ := Int.eq_ofNat_of_zero_le a2
    obtain ⟨N, rfl⟩ := Int.eq_ofNat_of_zero_le (show 0 ≤ n by omega)
    rw [Int.toNat_natCast] at e3
    exact Table_yes y f st N P w h0 h1 h2 (hv.1 e1) (by omega) (by omega) e2 e3
  · exact Table_no y f st n p w h0 h1 h2 v hv h
end Go.Proofs.Ytfhikdgdckfalaa
