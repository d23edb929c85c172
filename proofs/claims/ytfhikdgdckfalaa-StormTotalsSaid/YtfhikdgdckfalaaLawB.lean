/- The law StormTotals returns true. -/
import Derived.Test.YtfhikdgdckfalaaMB18
import Derived.Test.YtfhikdgdckfalaaMB13
import Derived.Test.YtfhikdgdckfalaaTotLaw
import Derived.BigQuiet
namespace Go.Proofs.Ytfhikdgdckfalaa
open Go.RowKit
set_option linter.unusedVariables false

theorem q1_of {f : Nat} {args : Array Value} {V : Value} {w : World} (h : ∀ W, Calls Try.prog f args W fun e w' => e = .returned V ∧ W = w') : ∀ d, Calls Try.prog f args (w.drewN d) fun e w'' => e = .returned V ∧ ∃ m, w'' = w.drewN m :=
  fun d => (h (w.drewN d)).mono fun e w' h => ⟨h.1, d, h.2.symm⟩
theorem KSer.drewN {W : World} {g : Nat} {s : SerD} {A : Option Addr} {n c : Nat} (h : KSer W g s A n c) (d : Nat) : KSer (W.drewN d) g s A n c := h.below (below_drewN (Below.refl _ _) d)
/-- None of the six conditions under which the law says nothing. -/
def totB (d f st n p : Int) : Prop := n ≤ 200 ∧ 0 ≤ p ∧ p < n ∧ 0 ≤ d ∧ d ≤ 4194304 ∧ stB f st n = true

set_option maxHeartbeats 1000000 in
set_option maxRecDepth 100000 in
theorem Totals_no (d f st n p : Int) (w : World) (h : ¬ totB d f st n p) :
    Calls Try.prog 5 #[.int .i64 d, .int .i64 f, .int .i64 st, .int .i64 n, .int .i64 p] w fun e w' => e = .returned (.bool true) ∧ Below w.heap.size w w' := by
  have FR := Lib.hid (fun W => Frame_ref f st n W)
  have HT := Lib.hid h
  unfold totB at HT
  clear h
  by_cases h1 : 200 < n
  · clear FR HT
    go_enter Try.func5, Try.ntmps5
    go_wp2_with fail
    refine (awake_calls _).mono ?_
    rintro e w1 ⟨rfl, b1⟩
    have B1 := Lib.hid b1
    clear b1
    go_wp2
    go_ret
    exact ⟨rfl, B1.out⟩
  by_cases h2 : p < 0
  · clear FR HT
    go_enter Try.func5, Try.ntmps5
    go_wp2_with fail
    refine (awake_calls _).mono ?_
    rintro e w1 ⟨rfl, b1⟩
    have B1 := Lib.hid b1
    clear b1
    go_wp2
    go_ret
    exact ⟨rfl, B1.out⟩
  by_cases h3 : n ≤ p
  · clear FR HT
    go_enter Try.func5, Try.ntmps5
    go_wp2_with fail
    refine (awake_calls _).mono ?_
    rintro e w1 ⟨rfl, b1⟩
    have B1 := Lib.hid b1
    clear b1
    go_wp2
    go_ret
    exact ⟨rfl, B1.out⟩
  by_cases h4 : d < 0
  · clear FR HT
    go_enter Try.func5, Try.ntmps5
    go_wp2_with fail
    refine (awake_calls _).mono ?_
    rintro e w1 ⟨rfl, b1⟩
    have B1 := Lib.hid b1
    clear b1
    go_wp2
    go_ret
    exact ⟨rfl, B1.out⟩
  by_cases h5 : 4194304 < d
  · clear FR HT
    go_enter Try.func5, Try.ntmps5
    go_wp2_with fail
    refine (awake_calls _).mono ?_
    rintro e w1 ⟨rfl, b1⟩
    have B1 := Lib.hid b1
    clear b1
    go_wp2
    go_ret
    exact ⟨rfl, B1.out⟩
  have hf : stB f st n = false := by
    cases hq : stB f st n
    · rfl
    · exact absurd ⟨by omega, by omega, by omega, by omega, by omega, hq⟩ HT.out
  have fr := fun W => FR.out W
  rw [hf] at fr
  have FR1 := Lib.hid fr
  clear FR HT fr hf
  go_enter Try.func5, Try.ntmps5
  go_wp2_with fail
  refine (awake_calls _).mono ?_
  rintro e w1 ⟨rfl, b1⟩
  have B1 := Lib.hid b1
  clear b1
  go_wp2_with fail
  refine (FR1.out _).mono ?_
  rintro e w2 ⟨rfl, rfl⟩
  go_wp2
  go_ret
  exact ⟨rfl, B1.out⟩

set_option maxHeartbeats 4000000 in
set_option maxRecDepth 100000 in
theorem Totals_yes (d f st : Int) (N P : Nat) (w : World) (h : totB d f st N P) :
    Calls Try.prog 5 #[.int .i64 d, .int .i64 f, .int .i64 st, .int .i64 N, .int .i64 P] w fun e w' => e = .returned (.bool true) ∧ Below w.heap.size w w' := by
  obtain ⟨t1, t2, t3, t4, t5, t6⟩ := h
  have o1 := ones_ok (d := d) (n := N) t4 t5 (by omega) (by omega)
  have o2 := tri_ok (d := d) (n := N) (p := P) t4 t5 (by omega) (by omega)
  have fr := fun W => Frame_ref f st N W
  rw [t6] at fr
  have FR := Lib.hid fr
  have u1 := fun W => Uniform_calls d f st N W
  have u2 := fun W => Triangle_calls d f st N P W
  unfold uniV at u1
  unfold triV at u2
  rw [if_neg (by intro h; rcases h with h | h | h; omega; omega; rw [t6] at h; cases h), Int.toNat_natCast] at u1
  rw [if_neg (by
    intro h; rcases h with h | h | h | h
    · omega
    · omega
    · rw [t6] at h; cases h
    · unfold ixB at h; rw [decide_eq_true t2, decide_eq_true t3] at h; cases h), Int.toNat_natCast, Int.toNat_natCast] at u2
  have U1 := Lib.hid u1
  have U2 := Lib.hid u2
  have N1 := Lib.hid (fun z (hz : z ∈ shL d (onesL N)) => shL_nonneg o1 hz)
  have N2 := Lib.hid (fun z (hz : z ∈ shL d (triL N P)) => shL_nonneg o2 hz)
  have L1 : Hid ((shL d (onesL N)).length = N) := Lib.hid (by rw [shL_length, ones_len])
  have L2 : Hid ((shL d (triL N P)).length = N) := Lib.hid (by rw [shL_length, tri_len])
  have V1 : Hid (validS f st (shL d (onesL N)) = true) := Lib.hid (valid_of t6 L1.out fun z hz => by have := N1.out z hz; omega)
  have V2 : Hid (validS f st (shL d (triL N P)) = true) := Lib.hid (valid_of t6 L2.out fun z hz => by have := N2.out z hz; omega)
  have S1 : Hid (sumD (shL d (onesL N)) = d) := Lib.hid (by rw [sumD_eq fun z hz => (N1.out z hz).1]; exact sum_share o1)
  have S2 : Hid (sumD (shL d (triL N P)) = d) := Lib.hid (by rw [sumD_eq fun z hz => (N2.out z hz).1]; exact sum_share o2)
  have SP := ones_spread o1 (by omega)
  have SPM : minL (shL d (onesL N)) ≤ maxL (shL d (onesL N)) := by
    unfold maxL minL
    obtain ⟨i, i1, i2⟩ := maxV_at (el (shL d (onesL N))) ((shL d (onesL N)).length - 1)
    rw [i2]
    exact minV_le _ i1
  have MB : maxL (shL d (onesL N)) ≤ 4194304 := by
    unfold maxL
    obtain ⟨i, i1, i2⟩ := maxV_at (el (shL d (onesL N))) ((shL d (onesL N)).length - 1)
    rw [i2]
    have := N1.out _ (el_mem (show i < (shL d (onesL N)).length by rw [L1.out] at i1 ⊢; omega))
    omega
  have STP := Lib.hid (fun i (hi : i + 1 < N) => tri_steps o2 (by omega) hi)
  generalize shL d (onesL N) = A1 at *
  generalize shL d (triL N P) = A2 at *
  have hNe : Hid (1 ≤ N ∧ N ≤ 200) := Lib.hid (by omega)
  have nn1 : ¬ 200 < (N : Int) := by omega
  have nn2 : ¬ (P : Int) < 0 := by omega
  have nn3 : ¬ (N : Int) ≤ (P : Int) := by omega
  have nn4 : ¬ d < 0 := by omega
  have nn5 : ¬ 4194304 < d := by omega
  clear o1 o2 fr u1 u2 t6
  go_enter Try.func5, Try.ntmps5
  go_wp2_with fail
  refine (awake_calls _).mono ?_
  rintro e w1 ⟨rfl, b1⟩
  have B1 := Lib.hid b1
  clear b1
  go_wp2_with fail
  refine (FR.out _).mono ?_
  rintro e w2 ⟨rfl, rfl⟩
  go_wp2_with fail
  refine (U1.out _).mono ?_
  rintro e w2 ⟨Z2, n2, c2, rfl, i2, b2, -⟩
  obtain ⟨W2, hW2, k2, b2'⟩ := keep_ser i2 b2
  dsimp only at hW2
  have K2 := Lib.hid k2
  have B2 := Lib.hid (below_then B1.out b2' B1.out.size)
  clear i2 b2 k2 b2' nn1 nn2 nn3 nn4 nn5
  go_wp2_with fail
  refine (U2.out _).mono ?_
  rintro e w3 ⟨Z3, n3, c3, rfl, i3, b3, -⟩
  obtain ⟨W3, hW3, k3, b3'⟩ := keep_ser i3 b3
  dsimp only at hW3
  have K3 := Lib.hid k3
  have K2 := Lib.hid (K2.out.below b3')
  have B3 := Lib.hid (below_then B2.out b3' B2.out.size)
  clear i3 b3 k3 b3' hW2
  obtain ⟨a0, a1, a2⟩ := K2.out.cells
  obtain ⟨a3, a4, a5⟩ := K3.out.cells
  dsimp only at a0 a1 a2 a3 a4 a5
  obtain rfl : n2 = N := by rw [← K2.out.i.len]; exact L1.out
  obtain rfl : n3 = n2 := by rw [← K3.out.i.len]; exact L2.out
  have rv1 := rValid_calls f st W3 K2.out.i
  dsimp only at rv1
  rw [V1.out] at rv1
  have RV1 := Lib.hid rv1
  clear rv1
  go_wp2_with fail
  refine (RV1.out).mono ?_
  rintro e w4 ⟨rfl, b4⟩
  have K2 := Lib.hid (K2.out.below b4)
  have K3 := Lib.hid (K3.out.below b4)
  have B4 := Lib.hid (below_then B3.out b4 B3.out.size)
  clear b4 a0 a1 a2 a3 a4 a5
  obtain ⟨a3, a4, a5⟩ := K3.out.cells
  dsimp only at a3 a4 a5
  have rv2 := rValid_calls f st w4 K3.out.i
  dsimp only at rv2
  rw [V2.out] at rv2
  have RV2 := Lib.hid rv2
  clear rv2
  go_wp2_with fail
  refine (RV2.out).mono ?_
  rintro e w5 ⟨rfl, b5⟩
  have K2 := Lib.hid (K2.out.below b5)
  have K3 := Lib.hid (K3.out.below b5)
  have B5 := Lib.hid (below_then B4.out b5 B4.out.size)
  clear b5 a3 a4 a5
  obtain ⟨a0, a1, a2⟩ := K2.out.cells
  obtain ⟨a3, a4, a5⟩ := K3.out.cells
  dsimp only at a0 a1 a2 a3 a4 a5
  have SQ1 : Hid (∀ j, Calls Try.prog 23 #[.slice Z2 n3 c2] (w5.drewN j) fun e w'' => e = .returned (.int .i64 d) ∧ ∃ m, w'' = w5.drewN m) := Lib.hid fun j => (Sum_calls (w5.drewN j) (K2.out.i.drewN j) (fun z hz => by have := N1.out z hz; omega) (by omega)).mono fun e w' h => ⟨by rw [h.1]; dsimp only; rw [S1.out], j, h.2.symm⟩
  have SQ2 : Hid (∀ j, Calls Try.prog 23 #[.slice Z3 n3 c3] (w5.drewN j) fun e w'' => e = .returned (.int .i64 d) ∧ ∃ m, w'' = w5.drewN m) := Lib.hid fun j => (Sum_calls (w5.drewN j) (K3.out.i.drewN j) (fun z hz => by have := N2.out z hz; omega) (by omega)).mono fun e w' h => ⟨by rw [h.1]; dsimp only; rw [S2.out], j, h.2.symm⟩
  have MX : Hid (∀ j, Calls Try.prog 24 #[.slice Z2 n3 c2] (w5.drewN j) fun e w'' => e = .returned (.int .i64 (maxL A1)) ∧ ∃ m, w'' = w5.drewN m) := Lib.hid fun j => (Max_calls (w5.drewN j) (K2.out.i.drewN j) hNe.out.1).mono fun e w' h => ⟨h.1, j, h.2.symm⟩
  have MN : Hid (∀ j, Calls Try.prog 25 #[.slice Z2 n3 c2] (w5.drewN j) fun e w'' => e = .returned (.int .i64 (minL A1)) ∧ ∃ m, w'' = w5.drewN m) := Lib.hid fun j => (Min_calls (w5.drewN j) (K2.out.i.drewN j) hNe.out.1).mono fun e w' h => ⟨h.1, j, h.2.symm⟩
  obtain ⟨sp1, sp2⟩ := SP
  generalize maxL A1 = mx at *
  generalize minL A1 = mn at *
  obtain ⟨D, hD⟩ : ∃ D, mx - mn = D := ⟨_, rfl⟩
  have hd1 : ((d : Int) != d) = false := by simp
  have rD : IntKind.i64.wrap D = D := IntWalk.i64_in _ (by omega)
  have hD1 : ¬ D > 1 := by omega
  have hD2 : decide (1 < D) = false := decide_eq_false (by omega)
  have hm1 : ¬ mn < 0 := by omega
  have hm2 : decide (mn < 0) = false := decide_eq_false (by omega)
  have HY2 := Lib.hid N2.out
  clear FR U1 U2 N1 V1 V2 S1 S2 L1
  go_wp2_with fail
  go_quiet ((first | (go_at_call 23; (first | with_reducible exact SQ1.out _ | with_reducible exact SQ2.out _)) | (go_at_call 24; exact MX.out _) | (go_at_call 25; exact MN.out _)))
  have K3 := Lib.hid (K3.out.drewN nq)
  have B6 := Lib.hid (below_drewN B5.out nq)
  clear SQ1 SQ2 MX MN hD rD hD1 hD2 hm1 hm2 sp1 sp2 SPM MB hd1 a0 a1 a2 a3 a4 a5 K2
  generalize w5.drewN nq = w6 at *
  go_wp2
  go_loopw [15] (fun i wr => ∃ k m : Nat, Hid (k = m + 1) ∧ k ≤ n3 ∧ i = .int .i64 k ∧ KSer wr w3.heap.size ⟨f, st, A2⟩ Z3 n3 c3 ∧ Below w.heap.size w wr) (fun i _ => n3 - (intOf i).toNat)
  case atStart => exact ⟨1, 0, rfl, hNe.out.1, rfl, K3.out, B6.out⟩
  case round =>
    clear K3 B6
    obtain ⟨k, m, hkm, hk, rfl, hK, hB⟩ := hrel
    generalize wr = wo at *
    have K3 := Lib.hid hK
    have B6 := Lib.hid hB
    clear hK hB
    by_cases hlt : (k : Int) < (n3 : Int)
    · have h1 := hkm.out
      have st1 := STP.out m (by omega)
      rw [← h1] at st1
      obtain ⟨ad, rfl, hl, hc⟩ := K3.out.i.at_ (k := k) (by omega)
      obtain ⟨ad', e', -, hc'⟩ := K3.out.i.at_ (k := m) (by omega)
      injection e' with e'
      subst e'
      obtain ⟨a3, a4, a5⟩ := K3.out.cells
      dsimp only at hc hc' a3 a4 a5
      have bx : 0 ≤ el A2 k ∧ el A2 k ≤ d := HY2.out _ (el_mem (by rw [L2.out]; omega))
      have by' : 0 ≤ el A2 m ∧ el A2 m ≤ d := HY2.out _ (el_mem (by rw [L2.out]; omega))
      generalize el A2 k = x at *
      generalize el A2 m = y at *
      have ekm : (k : Int) - 1 = (m : Int) := by omega
      have bk : (k : Int) < (n3 : Int) := hlt
      have bm : (m : Int) < (n3 : Int) := by omega
      have rk : IntKind.i64.wrap (k : Int) = (k : Int) := IntWalk.i64_in _ (by omega)
      have rm : IntKind.i64.wrap (m : Int) = (m : Int) := IntWalk.i64_in _ (by omega)
      obtain ⟨Y, hY⟩ : ∃ Y, y - 1 = Y := ⟨_, rfl⟩
      obtain ⟨Z, hZ⟩ : ∃ Z, y + 1 = Z := ⟨_, rfl⟩
      have rY : IntKind.i64.wrap Y = Y := IntWalk.i64_in _ (by omega)
      have rZ : IntKind.i64.wrap Z = Z := IntWalk.i64_in _ (by omega)
      clear h1
      by_cases hkp : (k : Int) ≤ (P : Int)
      · have c1 : decide ((k : Int) ≤ (P : Int)) = true := decide_eq_true hkp
        have c2 : ¬ x < Y := by have := st1.1 (by omega); omega
        have c3 : decide (x < Y) = false := decide_eq_false c2
        have c4 : ¬ (P : Int) < (k : Int) := by omega
        have c5 : decide ((P : Int) < (k : Int)) = false := decide_eq_false c4
        have c6 : decide (P < k) = false := decide_eq_false (by omega)
        have c7 : decide (k ≤ P) = true := decide_eq_true (by omega)
        clear st1 bx by'
        go_wp2_with fail
        go_quiet (fail)
        have K3 := Lib.hid (K3.out.drewN nq)
        have B6 := Lib.hid (below_drewN B6.out nq)
        clear hc hc' a3 a4 a5 rY rZ hY hZ c1 c2 c3 c4 c5 c6 c7
        generalize wo.drewN nq = w7 at *
        go_wp2
        go_roundw
        case rel => exact ⟨k + 1, k, rfl, by omega, by go_num, K3.out, B6.out⟩
        case measure => simp [intOf]; omega
      · have c1 : decide ((k : Int) ≤ (P : Int)) = false := decide_eq_false hkp
        have c2 : ¬ Z < x := by have := st1.2 (by omega); omega
        have c3 : decide (Z < x) = false := decide_eq_false c2
        have c4 : (P : Int) < (k : Int) := by omega
        have c5 : decide ((P : Int) < (k : Int)) = true := decide_eq_true c4
        have c6 : decide (P < k) = true := decide_eq_true (by omega)
        have c7 : decide (k ≤ P) = false := decide_eq_false (by omega)
        clear st1 bx by'
        go_wp2_with fail
        go_quiet (fail)
        have K3 := Lib.hid (K3.out.drewN nq)
        have B6 := Lib.hid (below_drewN B6.out nq)
        clear hc hc' a3 a4 a5 rY rZ hY hZ c1 c2 c3 c4 c5 c6 c7
        generalize wo.drewN nq = w7 at *
        go_wp2
        go_roundw
        case rel => exact ⟨k + 1, k, rfl, by omega, by go_num, K3.out, B6.out⟩
        case measure => simp [intOf]; omega
    · go_wp2
      go_ret
      exact ⟨rfl, B6.out⟩

theorem Totals_calls (d f st n p : Int) (w : World) :
    Calls Try.prog 5 #[.int .i64 d, .int .i64 f, .int .i64 st, .int .i64 n, .int .i64 p] w fun e w' => e = .returned (.bool true) ∧ Below w.heap.size w w' := by
  by_cases h : totB d f st n p
  · obtain ⟨N, rfl⟩ := Int.eq_ofNat_of_zero_le (show 0 ≤ n by have := h.2.1; have := h.2.2.1; omega)
    obtain ⟨P, rfl⟩ := Int.eq_ofNat_of_zero_le h.2.1
    exact Totals_yes d f st N P w h
  · exact Totals_no d f st n p w h
end Go.Proofs.Ytfhikdgdckfalaa
