/- Worse of the program and of the reference. -/
import Derived.Test.YtihaabdgligbbaaBad
namespace Go.Proofs.Ytihaabdgligbbaa
open Go.RowKit
set_option linter.unusedVariables false

/-- A call's answer: a bool and an error number. -/
abbrev RetB (V : Bool × Int) (w : World) : Ending → World → Prop := fun e w' => e = .returned (.tuple #[.bool V.1, .int .i64 V.2]) ∧ Below w.heap.size w w'
/-- .. in a world that differs in draws alone. -/
def RetBq (V : Bool × Int) (w : World) (e : Ending) (w' : World) : Prop := e = .returned (.tuple #[.bool V.1, .int .i64 V.2]) ∧ ∃ d, w' = w.drewN d
def WorseV (a b : List Int) : Bool × Int :=
  if (stockB a && stockB b) = false then (false, 1) else if a.length = b.length then (if sumL a = sumL b then (badV a b, 0) else (false, 25)) else (false, 3)

set_option maxHeartbeats 1000000 in
theorem Worse_q {A A' : Option Addr} {n c n' c' : Nat} {a b : List Int} (w : World) (h : Ints w A n c a) (h' : Ints w A' n' c' b) :
    Calls Try.prog 32 #[.slice A n c, .slice A' n' c'] w (RetBq (WorseV a b) w) := by
  have hcap := h.cap
  have hmax := h.max
  have hcap' := h'.cap
  have hmax' := h'.max
  have s1 := stock_calls w h
  have s2 := stock_calls w h'
  obtain ⟨V, hV⟩ : ∃ V, WorseV a b = V := ⟨_, rfl⟩
  rw [hV]
  unfold WorseV at hV
  rw [h.len, h'.len] at hV
  cases ha : stockB a
  · rw [ha] at hV s1
    obtain rfl : V = (false, 1) := by rw [← hV]; simp
    have S1 := Lib.hid s1
    clear hV s1 s2 h h' ha
    go_enter Try.func32, Try.ntmps32
    go_wp2_with fail
    refine (S1.out).mono ?_
    rintro e w' ⟨rfl, rfl⟩
    go_wp2
    go_returns
    exact ⟨rfl, 0, rfl⟩
  · rw [ha] at hV s1
    cases hb : stockB b
    · rw [hb] at hV s2
      obtain rfl : V = (false, 1) := by rw [← hV]; simp
      have S1 := Lib.hid s1
      have S2 := Lib.hid s2
      clear hV s1 s2 h h' ha hb
      go_enter Try.func32, Try.ntmps32
      go_wp2_with fail
      refine (S1.out).mono ?_
      rintro e w' ⟨rfl, rfl⟩
      go_wp2_with fail
      refine (S2.out).mono ?_
      rintro e w' ⟨rfl, rfl⟩
      go_wp2
      go_returns
      exact ⟨rfl, 0, rfl⟩
    · rw [hb] at hV s2
      have S1 := Lib.hid s1
      have S2 := Lib.hid s2
      by_cases hn : n = n'
      · subst hn
        have hne : ((n : Int) != (n : Int)) = false := by simp
        rw [if_neg (by decide), if_pos rfl] at hV
        have pa := stockB_parts ha
        have pb := stockB_parts hb
        have hn8 : (n : Int) ≤ 8 := by have := pa.2.1; rw [h.len] at this; omega
        have m1 := sum_calls w h (fits_of_in pa.2.2.1 (by rw [h.len]; omega) (by omega) (by omega))
        have m2 := sum_calls w h' (fits_of_in pb.2.2.1 (by rw [h'.len]; omega) (by omega) (by omega))
        have bd := atLeast_calls w h h' pa.2.2.1 pb.2.2.1 (by omega)
        generalize badV a b = q at *
        generalize sumL a = x at *
        generalize sumL b = y at *
        have M1 := Lib.hid m1
        have M2 := Lib.hid m2
        have BD := Lib.hid bd
        have HV := Lib.hid hV
        clear hV s1 s2 h h' ha hb pa pb m1 m2 bd
        by_cases e : x = y
        · subst e
          have hxe : ((x : Int) != x) = false := by simp
          obtain rfl : V = (q, 0) := by rw [← HV.out, if_pos rfl]
          go_enter Try.func32, Try.ntmps32
          go_wp2_with fail
          refine (S1.out).mono ?_
          rintro e w' ⟨rfl, rfl⟩
          go_wp2_with fail
          refine (S2.out).mono ?_
          rintro e w' ⟨rfl, rfl⟩
          go_wp2_with fail
          refine (M1.out).mono ?_
          rintro e w' ⟨rfl, rfl⟩
          go_wp2_with fail
          refine (M2.out).mono ?_
          rintro e w' ⟨rfl, rfl⟩
          go_wp2_with fail
          refine (BD.out).mono ?_
          rintro e w' ⟨rfl, d, rfl⟩
          go_wp2
          go_returns
          exact ⟨rfl, _, rfl⟩
        · have hxe : ((x : Int) != y) = true := by simp [e]
          obtain rfl : V = (false, 25) := by rw [← HV.out, if_neg e]
          clear e
          go_enter Try.func32, Try.ntmps32
          go_wp2_with fail
          refine (S1.out).mono ?_
          rintro e w' ⟨rfl, rfl⟩
          go_wp2_with fail
          refine (S2.out).mono ?_
          rintro e w' ⟨rfl, rfl⟩
          go_wp2_with fail
          refine (M1.out).mono ?_
          rintro e w' ⟨rfl, rfl⟩
          go_wp2_with fail
          refine (M2.out).mono ?_
          rintro e w' ⟨rfl, rfl⟩
          go_wp2
          go_returns
          exact ⟨rfl, 0, rfl⟩
      · have hne : ((n : Int) != (n' : Int)) = true := by simp; omega
        obtain rfl : V = (false, 3) := by rw [← hV, if_neg (by decide), if_neg hn]
        clear hV s1 s2 h h' ha hb hn
        go_enter Try.func32, Try.ntmps32
        go_wp2_with fail
        refine (S1.out).mono ?_
        rintro e w' ⟨rfl, rfl⟩
        go_wp2_with fail
        refine (S2.out).mono ?_
        rintro e w' ⟨rfl, rfl⟩
        go_wp2
        go_returns
        exact ⟨rfl, 0, rfl⟩

set_option maxHeartbeats 1000000 in
theorem Worse_ref {A A' : Option Addr} {n c n' c' : Nat} {a b : List Int} (w : World) (h : Ints w A n c a) (h' : Ints w A' n' c' b) :
    Calls Try.prog 34 #[.slice A n c, .slice A' n' c'] w (RetB (WorseV a b) w) := by
  have hcap := h.cap
  have hmax := h.max
  have hcap' := h'.cap
  have hmax' := h'.max
  have s1 := Stock_ref w h
  have s2 := Stock_ref w h'
  obtain ⟨V, hV⟩ : ∃ V, WorseV a b = V := ⟨_, rfl⟩
  rw [hV]
  unfold WorseV at hV
  rw [h.len, h'.len] at hV
  cases ha : stockB a
  · rw [ha] at hV s1
    obtain rfl : V = (false, 1) := by rw [← hV]; simp
    have S1 := Lib.hid s1
    clear hV s1 s2 h h' ha
    go_enter Try.func34, Try.ntmps34
    go_wp2_with fail
    refine (S1.out).mono ?_
    rintro e w' ⟨rfl, rfl⟩
    go_wp2
    go_returns
    exact ⟨rfl, Below.refl _ _⟩
  · rw [ha] at hV s1
    cases hb : stockB b
    · rw [hb] at hV s2
      obtain rfl : V = (false, 1) := by rw [← hV]; simp
      have S1 := Lib.hid s1
      have S2 := Lib.hid s2
      clear hV s1 s2 h h' ha hb
      go_enter Try.func34, Try.ntmps34
      go_wp2_with fail
      refine (S1.out).mono ?_
      rintro e w' ⟨rfl, rfl⟩
      go_wp2_with fail
      refine (S2.out).mono ?_
      rintro e w' ⟨rfl, rfl⟩
      go_wp2
      go_returns
      exact ⟨rfl, Below.refl _ _⟩
    · rw [hb] at hV s2
      have S1 := Lib.hid s1
      have S2 := Lib.hid s2
      by_cases hn : n = n'
      · subst hn
        have hne : ((n : Int) != (n : Int)) = false := by simp
        rw [if_neg (by decide), if_pos rfl] at hV
        have pa := stockB_parts ha
        have pb := stockB_parts hb
        have hn8 : (n : Int) ≤ 8 := by have := pa.2.1; rw [h.len] at this; omega
        have m1 := sum_ref w h (fits_of_in pa.2.2.1 (by rw [h.len]; omega) (by omega) (by omega))
        have m2 := sum_ref w h' (fits_of_in pb.2.2.1 (by rw [h'.len]; omega) (by omega) (by omega))
        have bd := Bad_ref w h h' pa.2.2.1 pb.2.2.1 (by omega)
        generalize badV a b = q at *
        generalize sumL a = x at *
        generalize sumL b = y at *
        have M1 := Lib.hid m1
        have M2 := Lib.hid m2
        have BD := Lib.hid bd
        have HV := Lib.hid hV
        clear hV s1 s2 h h' ha hb pa pb m1 m2 bd
        by_cases e : x = y
        · subst e
          have hxe : ((x : Int) != x) = false := by simp
          obtain rfl : V = (q, 0) := by rw [← HV.out, if_pos rfl]
          go_enter Try.func34, Try.ntmps34
          go_wp2_with fail
          refine (S1.out).mono ?_
          rintro e w' ⟨rfl, rfl⟩
          go_wp2_with fail
          refine (S2.out).mono ?_
          rintro e w' ⟨rfl, rfl⟩
          go_wp2_with fail
          refine (M1.out).mono ?_
          rintro e w' ⟨rfl, rfl⟩
          go_wp2_with fail
          refine (M2.out).mono ?_
          rintro e w' ⟨rfl, rfl⟩
          go_wp2_with fail
          refine (BD.out).mono ?_
          rintro e w' ⟨rfl, rfl⟩
          go_wp2
          go_returns
          exact ⟨rfl, Below.refl _ _⟩
        · have hxe : ((x : Int) != y) = true := by simp [e]
          obtain rfl : V = (false, 25) := by rw [← HV.out, if_neg e]
          clear e
          go_enter Try.func34, Try.ntmps34
          go_wp2_with fail
          refine (S1.out).mono ?_
          rintro e w' ⟨rfl, rfl⟩
          go_wp2_with fail
          refine (S2.out).mono ?_
          rintro e w' ⟨rfl, rfl⟩
          go_wp2_with fail
          refine (M1.out).mono ?_
          rintro e w' ⟨rfl, rfl⟩
          go_wp2_with fail
          refine (M2.out).mono ?_
          rintro e w' ⟨rfl, rfl⟩
          go_wp2
          go_returns
          exact ⟨rfl, Below.refl _ _⟩
      · have hne : ((n : Int) != (n' : Int)) = true := by simp; omega
        obtain rfl : V = (false, 3) := by rw [← hV, if_neg (by decide), if_neg hn]
        clear hV s1 s2 h h' ha hb hn
        go_enter Try.func34, Try.ntmps34
        go_wp2_with fail
        refine (S1.out).mono ?_
        rintro e w' ⟨rfl, rfl⟩
        go_wp2_with fail
        refine (S2.out).mono ?_
        rintro e w' ⟨rfl, rfl⟩
        go_wp2
        go_returns
        exact ⟨rfl, Below.refl _ _⟩

theorem Worse_calls {A A' : Option Addr} {n c n' c' : Nat} {a b : List Int} (w : World) (h : Ints w A n c a) (h' : Ints w A' n' c' b) :
    Calls Try.prog 32 #[.slice A n c, .slice A' n' c'] w (RetB (WorseV a b) w) :=
  (Worse_q w h h').mono fun _ _ ⟨he, d, hd⟩ => ⟨he, by rw [hd]; exact below_drewN (Below.refl _ _) d⟩
end Go.Proofs.Ytihaabdgligbbaa
