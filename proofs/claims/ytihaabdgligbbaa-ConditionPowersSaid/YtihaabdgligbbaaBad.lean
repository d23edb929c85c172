/- Tails of stocks; whether a list is at least as bad as another one: the program's atLeast, the reference's Bad. -/
import Derived.Test.YtihaabdgligbbaaDueR
namespace Go.Proofs.Ytihaabdgligbbaa
open Go.RowKit
set_option linter.unusedVariables false

theorem q_of {P : Program} {f : FuncId} {args : Array Value} {w : World} {n : Nat} {v : Value}
    (h : Calls P f args (w.drewN n) fun e w' => e = .returned v ∧ w.drewN n = w') : Calls P f args (w.drewN n) fun e w'' => e = .returned v ∧ ∃ m, w'' = w.drewN m :=
  h.mono fun _ _ ⟨he, hm⟩ => ⟨he, n, hm.symm⟩
theorem q_add {P : Program} {f : FuncId} {args : Array Value} {w : World} {a n : Nat} {v : Value}
    (h : Calls P f args (w.drewN (a + n)) fun e w' => e = .returned v ∧ w.drewN (a + n) = w') : Calls P f args (w.drewN (a + n)) fun e w'' => e = .returned v ∧ ∃ m, w'' = w.drewN (a + m) :=
  h.mono fun _ _ ⟨he, hm⟩ => ⟨he, n, hm.symm⟩

/-- The sum from k on. -/
def tlS (l : List Int) (k : Nat) : Int := sumL (l.drop k)
def badV (a b : List Int) : Bool := (List.range a.length).all fun k => decide (tlS b k ≤ tlS a k)
theorem badV_iff {a b : List Int} : badV a b = true ↔ ∀ k, k < a.length → tlS b k ≤ tlS a k := by
  unfold badV; simp [List.all_eq_true]
theorem badV_not {a b : List Int} {k : Nat} (hk : k < a.length) (h : tlS a k < tlS b k) : badV a b = false := by
  cases e : badV a b
  · rfl
  · have := badV_iff.1 e k hk; omega
theorem fits_drop {l : List Int} (h : inB 1125899906842624 l = true) (hn : l.length ≤ 1000) (k : Nat) : Fits (l.drop k) := fits_of_in (drop_in h k) (by rw [List.length_drop]; omega) (by omega) (by omega)
theorem tlS_bd {l : List Int} (h : inB 1125899906842624 l = true) (hn : l.length ≤ 1000) (k : Nat) : 0 ≤ tlS l k ∧ tlS l k ≤ 1000 * 1125899906842624 := by
  refine ⟨sum_nonneg (drop_in h k), ?_⟩
  have h1 := (sumF_bd (F := el (l.drop k)) (n := (l.drop k).length) (m := 1125899906842624) (fun j hj => inB_el (drop_in h k) hj)).2
  have h2 : (l.drop k).length ≤ 1000 := by rw [List.length_drop]; omega
  have h3 := Int.mul_le_mul_of_nonneg_right (show ((l.drop k).length : Int) ≤ 1000 by omega) (show (0 : Int) ≤ 1125899906842624 by omega)
  unfold tlS sumL; omega

set_option maxHeartbeats 1000000 in
theorem atLeast_calls {A A' : Option Addr} {n c c' : Nat} {a b : List Int} (w : World) (h : Ints w A n c a) (h' : Ints w A' n c' b) (ha : inB 1125899906842624 a = true) (hb : inB 1125899906842624 b = true) (hn : (n : Int) ≤ 1000) :
    Calls Try.prog 53 #[.slice A n c, .slice A' n c'] w fun e w' => e = .returned (.bool (badV a b)) ∧ ∃ d, w' = w.drewN d := by
  have hcap := h.cap
  have hmax := h.max
  have hcap' := h'.cap
  have hmax' := h'.max
  obtain ⟨V, hV⟩ : ∃ V, badV a b = V := ⟨_, rfl⟩
  rw [hV]
  have HV := Lib.hid hV
  have H := Lib.hid h
  have H' := Lib.hid h'
  have HL := Lib.hid h.len
  have HL' := Lib.hid h'.len
  have HA := Lib.hid ha
  have HB := Lib.hid hb
  clear h h' ha hb hV
  go_enter Try.func53, Try.ntmps53
  go_wp2
  go_loopw [8] (fun i wr => ∃ k : Nat, k ≤ n ∧ i = .int .i64 k ∧ (∀ j, j < k → tlS b j ≤ tlS a j) ∧ ∃ d, wr = w.drewN d) (fun i _ => n - (intOf i).toNat)
  case atStart => exact ⟨0, Nat.zero_le _, rfl, fun j hj => absurd hj (by omega), 0, rfl⟩
  case round =>
    obtain ⟨k, hk, rfl, hall, d, rfl⟩ := hrel
    have HALL := Lib.hid hall
    clear hall
    by_cases hlt : k < n
    · have i1 := H.out.drop (show k ≤ n by omega)
      rw [if_neg (show ¬ c = k by omega)] at i1
      have i2 := H'.out.drop (show k ≤ n by omega)
      rw [if_neg (show ¬ c' = k by omega)] at i2
      have s1 : ∀ j, Calls Try.prog 43 #[.slice (A.map (·.add k)) (n - k) (c - k)] (w.drewN (d + j)) fun e w'' => e = .returned (.int .i64 (tlS a k)) ∧ ∃ m, w'' = w.drewN (d + m) := fun j => q_add (sum_calls _ (i1.drewN _) (fits_drop HA.out (by rw [HL.out]; omega) k))
      have s2 : ∀ j, Calls Try.prog 43 #[.slice (A'.map (·.add k)) (n - k) (c' - k)] (w.drewN (d + j)) fun e w'' => e = .returned (.int .i64 (tlS b k)) ∧ ∃ m, w'' = w.drewN (d + m) := fun j => q_add (sum_calls _ (i2.drewN _) (fits_drop HB.out (by rw [HL'.out]; omega) k))
      have hno : tlS a k < tlS b k → V = false := fun h => by rw [← HV.out]; exact badV_not (by rw [HL.out]; exact hlt) h
      have b1 := tlS_bd HA.out (by rw [HL.out]; omega) k
      have b2 := tlS_bd HB.out (by rw [HL'.out]; omega) k
      have HS : Hid (tlS b k ≤ tlS a k → ∀ j, j < k + 1 → tlS b j ≤ tlS a j) := Lib.hid fun h j hj => by
        by_cases hjk : j = k
        · subst hjk; exact h
        · exact HALL.out j (by omega)
      have HNO := Lib.hid hno
      generalize tlS a k = x at *
      generalize tlS b k = y at *
      have S1 := Lib.hid s1
      have S2 := Lib.hid s2
      clear i1 i2 s1 s2 hno
      by_cases ht : x < y
      · have hv := HNO.out ht
        subst hv
        go_wp2
        go_quiet ((go_at_call 43; (first | with_reducible exact S1.out _ | with_reducible exact S2.out _)))
        go_wp2
        go_ret
        exact ⟨rfl, d + nq, by rw [World.drewN_drewN]⟩
      · have HX := Lib.hid (HS.out (by omega))
        go_wp2
        go_quiet ((go_at_call 43; (first | with_reducible exact S1.out _ | with_reducible exact S2.out _)))
        go_wp2
        go_roundw
        case rel => exact ⟨k + 1, by omega, by go_num, HX.out, _, rfl⟩
        case measure => simp [intOf]; try omega
    · obtain rfl : k = n := by omega
      have hv : V = true := by rw [← HV.out]; exact badV_iff.2 (by rw [HL.out]; exact HALL.out)
      subst hv
      go_wp2
      go_ret
      exact ⟨rfl, _, rfl⟩

set_option maxHeartbeats 1000000 in
theorem Bad_ref {A A' : Option Addr} {n c c' : Nat} {a b : List Int} (w : World) (h : Ints w A n c a) (h' : Ints w A' n c' b) (ha : inB 1125899906842624 a = true) (hb : inB 1125899906842624 b = true) (hn : (n : Int) ≤ 1000) :
    Calls Try.prog 57 #[.slice A n c, .slice A' n c'] w fun e w' => e = .returned (.bool (badV a b)) ∧ w = w' := by
  have hcap := h.cap
  have hmax := h.max
  have hcap' := h'.cap
  have hmax' := h'.max
  obtain ⟨V, hV⟩ : ∃ V, badV a b = V := ⟨_, rfl⟩
  rw [hV]
  have HV := Lib.hid hV
  have H := Lib.hid h
  have H' := Lib.hid h'
  have HL := Lib.hid h.len
  have HL' := Lib.hid h'.len
  have HA := Lib.hid ha
  have HB := Lib.hid hb
  clear h h' ha hb hV
  go_enter Try.func57, Try.ntmps57
  go_wp2
  go_loop [5] (fun i => ∃ k : Nat, k ≤ n ∧ i = .int .i64 ((k : Int) + 1) ∧ (∀ j, j < k → tlS b j ≤ tlS a j)) (fun i => n + 1 - (intOf i).toNat)
  case atStart => exact ⟨0, Nat.zero_le _, rfl, fun j hj => absurd hj (by omega)⟩
  case round =>
    obtain ⟨k, hk, rfl, hall⟩ := hrel
    have HALL := Lib.hid hall
    clear hall
    by_cases hlt : k < n
    · have hlt' : (k : Int) + 1 ≤ n := by omega
      have s1 := Tail_ref k w H.out hlt (fits_drop HA.out (by rw [HL.out]; omega) k)
      have s2 := Tail_ref k w H'.out hlt (fits_drop HB.out (by rw [HL'.out]; omega) k)
      rw [show sumL (a.drop k) = tlS a k from rfl] at s1
      rw [show sumL (b.drop k) = tlS b k from rfl] at s2
      have hno : tlS a k < tlS b k → V = false := fun h => by rw [← HV.out]; exact badV_not (by rw [HL.out]; exact hlt) h
      have b1 := tlS_bd HA.out (by rw [HL.out]; omega) k
      have b2 := tlS_bd HB.out (by rw [HL'.out]; omega) k
      have HS : Hid (tlS b k ≤ tlS a k → ∀ j, j < k + 1 → tlS b j ≤ tlS a j) := Lib.hid fun h j hj => by
        by_cases hjk : j = k
        · subst hjk; exact h
        · exact HALL.out j (by omega)
      have HNO := Lib.hid hno
      generalize tlS a k = x at *
      generalize tlS b k = y at *
      have S1 := Lib.hid s1
      have S2 := Lib.hid s2
      clear s1 s2 hno
      by_cases ht : x < y
      · have hv := HNO.out ht
        subst hv
        go_wp2_with fail
        refine (S1.out).mono ?_
        rintro e w' ⟨rfl, rfl⟩
        go_wp2_with fail
        refine (S2.out).mono ?_
        rintro e w' ⟨rfl, rfl⟩
        go_wp2
        go_ret
        exact ⟨rfl, rfl⟩
      · have HX := Lib.hid (HS.out (by omega))
        go_wp2_with fail
        refine (S1.out).mono ?_
        rintro e w' ⟨rfl, rfl⟩
        go_wp2_with fail
        refine (S2.out).mono ?_
        rintro e w' ⟨rfl, rfl⟩
        go_wp2
        go_round
        case rel => exact ⟨k + 1, by omega, by go_num, HX.out⟩
        case measure => simp [intOf]; try omega
    · obtain rfl : k = n := by omega
      have hlt' : ¬ (k : Int) + 1 ≤ k := by omega
      have hv : V = true := by rw [← HV.out]; exact badV_iff.2 (by rw [HL.out]; exact HALL.out)
      subst hv
      go_wp2
      go_ret
      exact ⟨rfl, rfl⟩
end Go.Proofs.Ytihaabdgligbbaa
