/- row of the reference: a row's depth at a duration. -/
import Derived.Test.YtfhikdgdckfalaaFrcLaw
namespace Go.Proofs.Ytfhikdgdckfalaa
open Go.RowKit
set_option linter.unusedVariables false

set_option maxRecDepth 100000 in
set_option maxHeartbeats 2000000 in
theorem row_calls {A A' : Option Addr} {n c n' c' : Nat} {ds r : List Int} (x : Int) (w : World) (h : Ints w A n c ds) (h' : Ints w A' n' c' r) (hl : r.length = ds.length) (ha : Asc ds) (hb : inEnds ds x) (hm : ∀ z ∈ ds, 1 ≤ z ∧ z ≤ 2592000) (hr : ∀ z ∈ r, 0 ≤ z ∧ z ≤ 4194304) :
    Calls Try.prog 75 #[.slice A n c, .slice A' n' c', .int .i64 x] w fun e w' => e = .returned (.tuple #[.int .i64 (rowN ds x fun j => el r j), .int .i64 (rowD ds x)]) ∧ ∃ q, w' = w.drewN q := by
  have hcap := h.cap
  have hmax := h.max
  have hfew := h.few
  have hcap' := h'.cap
  have hmax' := h'.max
  obtain rfl : n' = n := by rw [← h.len, ← h'.len, hl]
  have hn0 := hb.1
  rw [h.len] at hn0
  unfold rowN rowD
  rw [h.len]
  show Calls _ _ _ _ fun e w' => e = .returned (.tuple #[.int .i64 (if n' = 1 then el r 0 else (el ds (plcN ds x + 1) - x) * el r (plcN ds x) + (x - el ds (plcN ds x)) * el r (plcN ds x + 1)), .int .i64 (if n' = 1 then 1 else el ds (plcN ds x + 1) - el ds (plcN ds x))]) ∧ ∃ q, w' = w.drewN q
  by_cases h1 : n' = 1
  · subst h1
    obtain ⟨ad, rfl, hla, hc⟩ := h'.at_ (k := 0) (by omega)
    have hc0 : w.cell? ad = some (.int .i64 (el r 0)) := hc
    generalize el r 0 = u at *
    clear h h' hl ha hb hm hr hc
    go_enter Try.func75, Try.ntmps75
    go_wp2
    go_ret2
    exact ⟨rfl, 0, rfl⟩
  · rw [if_neg h1, if_neg h1]
    have h2 : 2 ≤ ds.length := by rw [h.len]; omega
    have PC := Lib.hid (fun W (hI : Ints W A n' c ds) => (place_calls x W hI))
    obtain ⟨b0, b1, b2, b3⟩ := plcN_bd ha hb h2
    have EQ := Lib.hid (fun i (hi : plcI ds x i) => plcI_eq ha hb h2 hi)
    have z0 := hm _ (el_mem (show plcN ds x < ds.length by omega))
    have z1 := hm _ (el_mem b0)
    have y0 := hr _ (el_mem (show plcN ds x < r.length by omega))
    have y1 := hr _ (el_mem (show plcN ds x + 1 < r.length by omega))
    rw [h.len] at b0
    generalize plcN ds x = i at *
    obtain ⟨ad, rfl, hla, hc⟩ := h.at_ (k := i) (by omega)
    obtain ⟨ad2, eA, hla2, hc2⟩ := h.at_ (k := i + 1) (by omega)
    obtain rfl : ad = ad2 := by injection eA
    obtain ⟨ae, rfl, hlb, hd⟩ := h'.at_ (k := i) (by omega)
    obtain ⟨ae2, eB, hlb2, hd2⟩ := h'.at_ (k := i + 1) (by omega)
    obtain rfl : ae = ae2 := by injection eB
    have H := Lib.hid h
    generalize el ds i = a at *
    generalize el ds (i + 1) = b at *
    generalize el r i = u at *
    generalize el r (i + 1) = v at *
    have hcx : w.cell? ⟨ad.block, ad.off + (i + 1), none⟩ = some (.int .i64 b) := hc2
    have hdx : w.cell? ⟨ae.block, ae.off + (i + 1), none⟩ = some (.int .i64 v) := hd2
    have a1 : 0 ≤ (b - x) * u := Int.mul_nonneg (by omega) (by omega)
    have a2 : 0 ≤ (x - a) * v := Int.mul_nonneg (by omega) (by omega)
    have a3 : (b - x) * u ≤ 2592000 * 4194304 := Int.mul_le_mul (by omega) y0.2 y0.1 (by omega)
    have a4 : (x - a) * v ≤ 2592000 * 4194304 := Int.mul_le_mul (by omega) y1.2 y1.1 (by omega)
    have r1 : IntKind.i64.wrap ((i : Int) + 1) = ((i + 1 : Nat) : Int) := by rw [IntWalk.i64_in _ (by omega)]; omega
    obtain ⟨U, hU⟩ : ∃ U : Int, b - x = U := ⟨_, rfl⟩
    obtain ⟨V, hV⟩ : ∃ V : Int, x - a = V := ⟨_, rfl⟩
    obtain ⟨D, hD⟩ : ∃ D : Int, b - a = D := ⟨_, rfl⟩
    rw [hU] at a1 a3 ⊢
    rw [hV] at a2 a4 ⊢
    rw [hD]
    obtain ⟨P, hP⟩ : ∃ P : Int, U * u = P := ⟨_, rfl⟩
    obtain ⟨Q, hQ⟩ : ∃ Q : Int, V * v = Q := ⟨_, rfl⟩
    rw [hP] at a1 a3 ⊢
    rw [hQ] at a2 a4 ⊢
    obtain ⟨S, hS⟩ : ∃ S : Int, P + Q = S := ⟨_, rfl⟩
    rw [hS]
    have wU : IntKind.i64.wrap U = U := IntWalk.i64_in _ (by omega)
    have wV : IntKind.i64.wrap V = V := IntWalk.i64_in _ (by omega)
    have wD : IntKind.i64.wrap D = D := IntWalk.i64_in _ (by omega)
    have wP : IntKind.i64.wrap P = P := IntWalk.i64_in _ (by omega)
    have wQ : IntKind.i64.wrap Q = Q := IntWalk.i64_in _ (by omega)
    have wS : IntKind.i64.wrap S = S := IntWalk.i64_in _ (by omega)
    have o1 : ¬ ((n' : Int) == 1) = true := by simp; omega
    have o2 : ((n' : Int) == 1) = false := by simp; omega
    have i1 : (i : Int) < (n' : Int) := by omega
    have i2 : ((i : Int) + 1) < (n' : Int) := by omega
    have i3 : (0 : Int) ≤ (i : Int) := by omega
    have i4 : (0 : Int) ≤ (i : Int) + 1 := by omega
    clear h h' hl ha hb hm hr hc2 hd2 eA eB z0 z1 y0 y1 a1 a2 a3 a4 b1 b2 b3
    go_enter Try.func75, Try.ntmps75
    go_wp2_with fail
    refine (PC.out _ H.out).mono ?_
    rintro e w1 ⟨j, rfl, rfl, hj⟩
    have hj := EQ.out j hj
    subst hj
    go_wp2
    go_quiet (fail)
    go_wp2
    go_ret2
    exact ⟨rfl, _, rfl⟩
end Go.Proofs.Ytfhikdgdckfalaa
