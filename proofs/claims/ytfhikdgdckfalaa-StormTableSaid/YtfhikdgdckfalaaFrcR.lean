/- Fraction of the reference: the depth of a table as numerator and denominator. -/
import Derived.Test.YtfhikdgdckfalaaRowR
namespace Go.Proofs.Ytfhikdgdckfalaa
open Go.RowKit
set_option linter.unusedVariables false

set_option maxRecDepth 100000 in
set_option maxHeartbeats 4000000 in
theorem Fraction_calls {A0 A1 A2 : Option Addr} {n0 c0 n1 c1 n2 c2 : Nat} {ds ps : List Int} {rows : List (List Int)} (x y : Int) (w : World) (h0 : Ints w A0 n0 c0 ds) (h1 : Ints w A1 n1 c1 ps) (h2 : Tab w A2 n2 c2 rows) (ok : TOk ds ps rows) (hx : inEnds ds x) (hy : inEnds ps y) :
    Calls Try.prog 59 #[tabA A0 n0 c0 A1 n1 c1 A2 n2 c2, .int .i64 x, .int .i64 y] w fun e w' => e = .returned (.tuple #[.int .i64 (frcN ds ps rows x y), .int .i64 (frcD ds ps x y)]) ∧ Below w.heap.size w w' := by
  obtain ⟨W0, hW0⟩ : ∃ W0, w.alloc (tabO A0 n0 c0 A1 n1 c1 A2 n2 c2) = W0 := ⟨_, rfl⟩
  have hb0 : Below w.heap.size w W0 := by rw [← hW0]; exact (Below.refl _ _).alloc (Nat.le_refl _) _
  have X0 := Lib.hid (show HBox W0 w.heap.size (.slice A0 n0 c0) (.slice A1 n1 c1) (.slice A2 n2 c2) by rw [← hW0]; exact HBox.made _ _ _ _ _)
  obtain ⟨k0, k1, k2, kl⟩ : W0.cell? ⟨w.heap.size, 0, none⟩ = some (.slice A0 n0 c0) ∧ W0.cell? ⟨w.heap.size, 1, none⟩ = some (.slice A1 n1 c1) ∧ W0.cell? ⟨w.heap.size, 2, none⟩ = some (.slice A2 n2 c2) ∧ w.heap.size < W0.heap.size := ⟨X0.out.c0, X0.out.c1, X0.out.c2, X0.out.lt⟩
  have hn1 : n1 ≤ 17592186044416 := h1.few
  have hc1 := h1.cap
  have hm1 := h1.max
  have hc2 := h2.cap
  have hm2 := h2.max
  have e2 : n2 = n1 := by rw [← h2.len, ok.rl, h1.len]
  subst e2
  have hp : 0 < n2 := by have := hy.1; rw [h1.len] at this; exact this
  have B0 := Lib.hid hb0
  have T0 := Lib.hid (h2.below hb0)
  have I0 := Lib.hid (h0.below hb0)
  have I1 := Lib.hid (h1.below hb0)
  have RQ : Hid (∀ (W : World) (k : Nat) A' n' c', k < rows.length → Ints W A0 n0 c0 ds → Ints W A' n' c' (tl rows k) → ∀ j, Calls Try.prog 75 #[.slice A0 n0 c0, .slice A' n' c', .int .i64 x] (W.drewN j) fun e w'' => e = .returned (.tuple #[.int .i64 (rowN ds x fun j => el (tl rows k) j), .int .i64 (rowD ds x)]) ∧ ∃ q, w'' = W.drewN q) := Lib.hid fun W k A' n' c' hk hi hi' j =>
    (row_calls x (W.drewN j) (hi.drewN j) (hi'.drewN j) (ok.cl _ (tl_mem hk)).1 ok.da hx ok.dr (ok.cl _ (tl_mem hk)).2).mono fun e w' h => ⟨h.1, by obtain ⟨q, hq⟩ := h.2; exact ⟨j + q, by rw [hq, World.drewN_drewN]⟩⟩
  have RB : Hid (∀ k, k < rows.length → 0 ≤ rowN ds x (fun j => el (tl rows k) j) ∧ rowN ds x (fun j => el (tl rows k) j) ≤ 2592000 * 4194304) := Lib.hid fun k hk => by
    have hc := ok.cl _ (tl_mem hk)
    have h := rowN_bd (m := 2592000) (M := 4194304) (r := fun j => el (tl rows k) j) ok.da hx ok.dr (by omega) (fun j hj => hc.2 _ (el_mem (by rw [hc.1]; exact hj)))
    refine ⟨h.1, Int.le_trans h.2.1 (Int.mul_le_mul_of_nonneg_right h.2.2.2 (by omega))⟩
  have RD := Lib.hid (show 1 ≤ rowD ds x ∧ rowD ds x ≤ 2592000 by
    have h := rowN_bd (m := 2592000) (M := 0) (r := fun j => 0) ok.da hx ok.dr (by omega) (fun j hj => by omega)
    exact h.2.2)
  have hrl : rows.length = n2 := h2.len
  unfold frcN frcD
  obtain ⟨R, hR⟩ : ∃ R : Nat → Int, (fun k => rowN ds x fun j => el (tl rows k) j) = R := ⟨_, rfl⟩
  have hRe : ∀ k, (rowN ds x fun j => el (tl rows k) j) = R k := fun k => by rw [← hR]
  have RQ := Lib.hid (fun W (k : Nat) A' n' c' (hk : k < n2) hi hi' => by have := RQ.out W k A' n' c' (by omega) hi hi'; rw [hRe] at this; exact this)
  have RB := Lib.hid (fun k (hk : k < n2) => by have := RB.out k (by omega); rw [hRe] at this; exact this)
  rw [hR]
  clear hR hRe
  generalize rowD ds x = D at *
  have rd := RD.out
  by_cases h1' : n2 = 1
  · subst h1'
    have er : rowN ps y R = R 0 := by unfold rowN; rw [h1.len, if_pos rfl]
    have ed : rowD ps y = 1 := by unfold rowD; rw [h1.len, if_pos rfl]
    rw [er, ed, Int.mul_one]
    obtain ⟨ad, A', n', c', rfl, hl, hc, hI⟩ := T0.out.at_ (k := 0) (by omega)
    have hcz : W0.cell? ad = some (.slice A' n' c') := hc
    have R1 := Lib.hid (RQ.out W0 0 A' n' c' (by omega) I0.out hI)
    generalize R 0 = r0 at *
    clear h0 h1 h2 hb0 RQ RB ok hx hy hc hI er ed RD
    go_enter Try.func59, Try.ntmps59
    go_wp2_with fail
    go_quiet ((go_at_call 75; with_reducible exact R1.out _))
    go_wp2
    go_ret2
    exact ⟨rfl, below_drewN B0.out _⟩
  have h2l : 2 ≤ ps.length := by rw [h1.len]; omega
  have PC := Lib.hid (place_calls y W0 I1.out)
  obtain ⟨b0, b1, b2, b3⟩ := plcN_bd ok.pa hy h2l
  have EQ := Lib.hid (fun i (hi : plcI ps y i) => plcI_eq ok.pa hy h2l hi)
  have z0 := ok.pr _ (el_mem (show plcN ps y < ps.length by omega))
  have z1 := ok.pr _ (el_mem b0)
  have er : rowN ps y R = (el ps (plcN ps y + 1) - y) * R (plcN ps y) + (y - el ps (plcN ps y)) * R (plcN ps y + 1) := by unfold rowN; rw [if_neg (by omega)]
  have ed : rowD ps y = el ps (plcN ps y + 1) - el ps (plcN ps y) := by unfold rowD; rw [if_neg (by omega)]
  rw [er, ed]
  rw [h1.len] at b0
  generalize plcN ps y = i at *
  obtain ⟨ad, A', n', c', rfl, hl, hc, hI⟩ := T0.out.at_ (k := i) (by omega)
  obtain ⟨ad2, A'', n'', c'', eA, hl2, hcc, hI2⟩ := T0.out.at_ (k := i + 1) (by omega)
  obtain rfl : ad = ad2 := by injection eA
  obtain ⟨ax, rfl, hlx, hd⟩ := I1.out.at_ (k := i) (by omega)
  obtain ⟨ax2, eB, hlx2, hd2⟩ := I1.out.at_ (k := i + 1) (by omega)
  obtain rfl : ax = ax2 := by injection eB
  have J1 := Lib.hid hI
  have J2 := Lib.hid hI2
  have y0 := RB.out i (by omega)
  have y1 := RB.out (i + 1) b0
  generalize el ps i = a at *
  generalize el ps (i + 1) = b at *
  have hcx : W0.cell? ⟨ad.block, ad.off + (i + 1), none⟩ = some (.slice A'' n'' c'') := hcc
  have hdx : W0.cell? ⟨ax.block, ax.off + (i + 1), none⟩ = some (.int .i64 b) := hd2
  have R1 := Lib.hid (RQ.out W0 i A' n' c' (by omega) I0.out J1.out)
  have R2 := Lib.hid (fun d => RQ.out (W0.drewN d) (i + 1) A'' n'' c'' b0 (I0.out.drewN d) (J2.out.drewN d))
  generalize R i = u at *
  generalize R (i + 1) = v at *
  have a1 : 0 ≤ (b - y) * u := Int.mul_nonneg (by omega) (by omega)
  have a2 : 0 ≤ (y - a) * v := Int.mul_nonneg (by omega) (by omega)
  have a3 : (b - y) * u ≤ 10000 * (2592000 * 4194304) := Int.mul_le_mul (by omega) y0.2 y0.1 (by omega)
  have a4 : (y - a) * v ≤ 10000 * (2592000 * 4194304) := Int.mul_le_mul (by omega) y1.2 y1.1 (by omega)
  have a5 : D * (b - a) ≤ 2592000 * 10000 := Int.mul_le_mul (by omega) (by omega) (by omega) (by omega)
  have a6 : 0 ≤ D * (b - a) := Int.mul_nonneg (by omega) (by omega)
  rw [Int.mul_comm (b - y)] at a1 a3 ⊢
  rw [Int.mul_comm (y - a)] at a2 a4 ⊢
  have r1 : IntKind.i64.wrap ((i : Int) + 1) = ((i + 1 : Nat) : Int) := by rw [IntWalk.i64_in _ (by omega)]; omega
  obtain ⟨U, hU⟩ : ∃ U : Int, b - y = U := ⟨_, rfl⟩
  obtain ⟨V, hV⟩ : ∃ V : Int, y - a = V := ⟨_, rfl⟩
  obtain ⟨E, hE⟩ : ∃ E : Int, b - a = E := ⟨_, rfl⟩
  rw [hU] at a1 a3 ⊢
  rw [hV] at a2 a4 ⊢
  rw [hE] at a5 a6 ⊢
  obtain ⟨P, hP⟩ : ∃ P : Int, u * U = P := ⟨_, rfl⟩
  obtain ⟨Q, hQ⟩ : ∃ Q : Int, v * V = Q := ⟨_, rfl⟩
  obtain ⟨F, hF⟩ : ∃ F : Int, D * E = F := ⟨_, rfl⟩
  rw [hP] at a1 a3 ⊢
  rw [hQ] at a2 a4 ⊢
  rw [hF] at a5 a6 ⊢
  obtain ⟨S, hS⟩ : ∃ S : Int, P + Q = S := ⟨_, rfl⟩
  rw [hS]
  have wU : IntKind.i64.wrap U = U := IntWalk.i64_in _ (by omega)
  have wV : IntKind.i64.wrap V = V := IntWalk.i64_in _ (by omega)
  have wE : IntKind.i64.wrap E = E := IntWalk.i64_in _ (by omega)
  have wP : IntKind.i64.wrap P = P := IntWalk.i64_in _ (by omega)
  have wQ : IntKind.i64.wrap Q = Q := IntWalk.i64_in _ (by omega)
  have wF : IntKind.i64.wrap F = F := IntWalk.i64_in _ (by omega)
  have wS : IntKind.i64.wrap S = S := IntWalk.i64_in _ (by omega)
  have o2 : ((n2 : Int) == 1) = false := by simp; omega
  have i1 : (i : Int) < (n2 : Int) := by omega
  have i2 : ((i : Int) + 1) < (n2 : Int) := by omega
  have i3 : (0 : Int) ≤ (i : Int) := by omega
  have i4 : (0 : Int) ≤ (i : Int) + 1 := by omega
  have HL := Lib.hid (show w.heap.size < W0.heap.size ∧ ad.block < W0.heap.size ∧ ax.block < W0.heap.size from ⟨kl, hl, hlx⟩)
  clear h0 h1 h2 hb0 RQ RB ok hx hy hI hI2 er ed RD rd hcc hd2 eA eB z0 z1 y0 y1 a1 a2 a3 a4 a5 a6 b1 b2 b3
  go_enter Try.func59, Try.ntmps59
  go_wp2_with fail
  refine (PC.out).mono ?_
  rintro e w1 ⟨j, rfl, rfl, hj⟩
  have hj := EQ.out j hj
  subst hj
  go_wp2_with fail
  go_quiet ((go_at_call 75; with_reducible exact R1.out _))
  have R2 := Lib.hid (R2.out nq)
  have hb1 := below_drewN (Below.refl W0.heap.size W0) nq
  have l0 := (hb1.cell (p := ⟨w.heap.size, 0, none⟩) HL.out.1).trans k0
  have l1 := (hb1.cell (p := ⟨w.heap.size, 1, none⟩) HL.out.1).trans k1
  have l2 := (hb1.cell (p := ⟨w.heap.size, 2, none⟩) HL.out.1).trans k2
  have lcx := (hb1.cell (p := ⟨ad.block, ad.off + (j + 1), none⟩) HL.out.2.1).trans hcx
  have ld := (hb1.cell (p := ax.add j) (by rw [block_of_add]; exact HL.out.2.2)).trans hd
  have ldx := (hb1.cell (p := ⟨ax.block, ax.off + (j + 1), none⟩) HL.out.2.2).trans hdx
  have B1 := Lib.hid (below_drewN B0.out nq)
  have HL1 := Lib.hid (show w.heap.size < (W0.drewN nq).heap.size ∧ ad.block < (W0.drewN nq).heap.size ∧ ax.block < (W0.drewN nq).heap.size from ⟨Nat.lt_of_lt_of_le HL.out.1 hb1.size, Nat.lt_of_lt_of_le HL.out.2.1 hb1.size, Nat.lt_of_lt_of_le HL.out.2.2 hb1.size⟩)
  clear hb1 k0 k1 k2 hcx hd hdx hc
  generalize W0.drewN nq = W1 at *
  go_wp2_with fail
  go_quiet ((go_at_call 75; with_reducible exact R2.out _))
  go_wp2
  go_quiet (fail)
  go_wp2
  go_ret2
  exact ⟨rfl, below_drewN (below_drewN B1.out _) _⟩
end Go.Proofs.Ytfhikdgdckfalaa
