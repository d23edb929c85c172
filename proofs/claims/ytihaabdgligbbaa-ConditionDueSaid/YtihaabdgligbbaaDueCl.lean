/- The closure of the law ConditionDue: whether after some years the tail is as great as was asked. -/
import Derived.Test.YtihaabdgligbbaaDueLaw
import Derived.Test.YtihaabdgligbbaaBox
namespace Go.Proofs.Ytihaabdgligbbaa
open Go.RowKit
set_option linter.unusedVariables false

theorem tlS_bd8 {l : List Int} (h : inB 1125899906842624 l = true) (hn : l.length ≤ 8) (k : Nat) : 0 ≤ tlS l k ∧ tlS l k ≤ 9007199254740992 := by
  refine ⟨sum_nonneg (drop_in h k), ?_⟩
  have h1 := (sumF_bd (F := el (l.drop k)) (n := (l.drop k).length) (m := 1125899906842624) (fun j hj => inB_el (drop_in h k) hj)).2
  have h2 : (l.drop k).length ≤ 8 := by rw [List.length_drop]; omega
  have h3 := Int.mul_le_mul_of_nonneg_right (show ((l.drop k).length : Int) ≤ 8 by omega) (show (0 : Int) ≤ 1125899906842624 by omega)
  unfold tlS sumL; omega

set_option maxHeartbeats 1000000 in
theorem enough_calls {A A' : Option Addr} {n c n' c' : Nat} {ts : List (List Int)} {l : List Int} (y g bt bs bg bp : Nat) (p : Int) (w : World) (ct : Box w bt (.slice A n c)) (cs : Box w bs (.slice A' n' c')) (cg : Box w bg (.int .i64 (1 + (g : Int)))) (cp : Box w bp (.int .i64 p))
    (h : Tab w A n c ts) (h' : Ints w A' n' c' l) (e : givenE ts l = 0) (hg : g < n') (hp0 : 0 ≤ p) (hp1 : p ≤ 1000) (hy : (y : Int) ≤ 200) :
    Calls Try.prog 18 #[.int .i64 y, .pointer (some ⟨bt, 0, none⟩), .pointer (some ⟨bs, 0, none⟩), .pointer (some ⟨bg, 0, none⟩), .pointer (some ⟨bp, 0, none⟩)] w fun e w' => e = .returned (.bool (dueB ts l g p y)) ∧ Below w.heap.size w w' := by
  have af := After_in y w h h' e hy
  have ok := yearOk_of e
  have okk := (ok.years y).1
  have hlen : (yearsL ts l y).length = n' := by rw [(ok.years y).2.1, h'.len]
  have hin := (stockB_parts okk.s).2.2.1
  have hn8 : (n' : Int) ≤ 8 := by have := (stockB_parts ok.s).2.1; rw [h'.len] at this; omega
  have hs0 := sum_nonneg hin
  have hs1 := (stockB_parts okk.s).2.2.2
  have hb1 := tlS_bd8 hin (by rw [hlen]; omega) g
  have ft := fits_drop hin (by rw [hlen]; omega) g
  have f0 := fits_drop hin (by rw [hlen]; omega) 0
  have t0 : tlS (yearsL ts l y) 0 = sumL (yearsL ts l y) := rfl
  obtain ⟨V, hV⟩ : ∃ V, dueB ts l g p y = V := ⟨_, rfl⟩
  rw [hV]
  unfold dueB at hV
  rw [show sumL ((yearsL ts l y).drop g) = tlS (yearsL ts l y) g from rfl] at hV
  have hg0 : 0 < n' := by omega
  obtain ⟨ct0, ctl⟩ := ct
  obtain ⟨cs0, csl⟩ := cs
  obtain ⟨cg0, cgl⟩ := cg
  obtain ⟨cp0, cpl⟩ := cp
  have T2 := fun (W : World) (B : Option Addr) (d : Nat) (I : Ints W B n' d (yearsL ts l y)) => And.intro (tail_calls g W I hg ft) (tail_calls 0 W I hg0 f0)
  rw [t0] at T2
  generalize tlS (yearsL ts l y) g = P at *
  generalize sumL (yearsL ts l y) = Q at *
  generalize yearsL ts l y = L at *
  obtain ⟨M, hM⟩ : ∃ M, p * Q = M := ⟨_, rfl⟩
  have hM0 : 0 ≤ M := by rw [← hM]; exact Int.mul_nonneg hp0 hs0
  have hM1 : M ≤ 1000 * 1125899906842624 := by rw [← hM]; exact Int.mul_le_mul hp1 hs1 hs0 (by omega)
  obtain ⟨X, hX⟩ : ∃ X, P * 1000 = X := ⟨_, rfl⟩
  rw [hM, show 1000 * P = X by omega] at hV
  have e1 : IntKind.i64.wrap (1 + (g : Int) - 1) = (g : Int) := by rw [show 1 + (g : Int) - 1 = g by omega]; exact IntWalk.i64_in _ (by omega)
  have e2 : IntKind.i64.wrap (P * 1000) = X := by rw [hX]; exact IntWalk.i64_in _ (by omega)
  have e3 : IntKind.i64.wrap (p * Q) = M := by rw [hM]; exact IntWalk.i64_in _ (by omega)
  have E1 := Lib.hid e1
  have E2 := Lib.hid e2
  have E3 := Lib.hid e3
  have AF := Lib.hid af
  have HLEN := Lib.hid hlen
  have HV := Lib.hid hV
  have HT2 := Lib.hid T2
  have hcs' := h'.cap
  have hmx' := h'.max
  clear af ok okk hlen hin hs0 hs1 hb1 ft f0 t0 hV T2 hM hX e1 e2 e3 h h' e
  go_enter Try.func18, Try.ntmps18
  go_wp2_with fail
  refine (AF.out).mono ?_
  rintro e w3 ⟨B3, m3, d3, rfl, i3, b3, f3⟩
  obtain rfl : m3 = n' := by rw [← i3.len, HLEN.out]
  have HB3 := Lib.hid b3
  have x1 := (b3.cell (p := ⟨bs, 0, none⟩) csl).trans cs0
  have x2 := (b3.cell (p := ⟨bg, 0, none⟩) cgl).trans cg0
  have x3 := (b3.cell (p := ⟨bp, 0, none⟩) cpl).trans cp0
  have s1 : ∀ j, Calls Try.prog 20 #[.slice B3 m3 d3, .int .i64 g] (w3.drewN j) fun e w'' => e = .returned (.int .i64 P) ∧ ∃ m, w'' = w3.drewN m := fun j => q_of (HT2.out _ _ _ (i3.drewN j)).1
  have s2 : ∀ j, Calls Try.prog 20 #[.slice B3 m3 d3, .int .i64 0] (w3.drewN j) fun e w'' => e = .returned (.int .i64 Q) ∧ ∃ m, w'' = w3.drewN m := fun j => q_of (HT2.out _ _ _ (i3.drewN j)).2
  have S1 := Lib.hid s1
  have S2 := Lib.hid s2
  have e1 := E1.out
  have e2 := E2.out
  have e3 := E3.out
  clear b3 i3 f3 s1 s2
  by_cases ht : M ≤ X
  · have hv : V = true := by rw [← HV.out]; exact decide_eq_true ht
    subst hv
    go_wp2
    go_quiet ((go_at_call 20; (first | with_reducible exact S1.out _ | with_reducible exact S2.out _)))
    clear e1 e2 e3
    go_wp2
    go_ret
    exact ⟨rfl, below_drewN HB3.out _⟩
  · have hv : V = false := by rw [← HV.out]; exact decide_eq_false ht
    subst hv
    go_wp2
    go_quiet ((go_at_call 20; (first | with_reducible exact S1.out _ | with_reducible exact S2.out _)))
    clear e1 e2 e3
    go_wp2
    go_ret
    exact ⟨ret_b (decide_eq_false (by omega)), below_drewN HB3.out _⟩
end Go.Proofs.Ytihaabdgligbbaa
