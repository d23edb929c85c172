/- Due of both at any arguments. -/
import Derived.Test.YtihaabdgligbbaaDueR
namespace Go.Proofs.Ytihaabdgligbbaa
open Go.RowKit
set_option linter.unusedVariables false

set_option maxHeartbeats 1000000 in
theorem Due_rngP0 {A A' : Option Addr} {n c n' c' : Nat} (g p : Int) (w : World) (h1c : n ≤ c) (h2c : c ≤ 9223372036854775807) (h3c : n' ≤ c') (h4c : c' ≤ 9223372036854775807)
    (gv : Calls Try.prog 44 #[.slice A n c, .slice A' n' c'] w fun e w' => e = .returned (.int .i64 0) ∧ w = w') (h0 : g < 1) :
    Calls Try.prog 14 #[.slice A n c, .slice A' n' c', .int .i64 g, .int .i64 p] w (RetN (0, 2) w) := by
  generalize hV : ((0, 2) : Int × Int) = V
  have HV := Lib.hid hV
  have G := Lib.hid gv
  clear hV gv
  go_enter Try.func14, Try.ntmps14
  go_wp2_with fail
  refine (G.out).mono ?_
  rintro e w' ⟨rfl, rfl⟩
  go_wp2
  go_returns
  rw [← HV.out]
  exact ⟨rfl, Below.refl _ _⟩

set_option maxHeartbeats 1000000 in
theorem Due_rngP1 {A A' : Option Addr} {n c n' c' : Nat} (g p : Int) (w : World) (h1c : n ≤ c) (h2c : c ≤ 9223372036854775807) (h3c : n' ≤ c') (h4c : c' ≤ 9223372036854775807)
    (gv : Calls Try.prog 44 #[.slice A n c, .slice A' n' c'] w fun e w' => e = .returned (.int .i64 0) ∧ w = w') (h0 : ¬ g < 1) (h1 : (n : Int) < g) :
    Calls Try.prog 14 #[.slice A n c, .slice A' n' c', .int .i64 g, .int .i64 p] w (RetN (0, 2) w) := by
  generalize hV : ((0, 2) : Int × Int) = V
  have HV := Lib.hid hV
  have G := Lib.hid gv
  clear hV gv
  go_enter Try.func14, Try.ntmps14
  go_wp2_with fail
  refine (G.out).mono ?_
  rintro e w' ⟨rfl, rfl⟩
  go_wp2
  go_returns
  rw [← HV.out]
  exact ⟨rfl, Below.refl _ _⟩

set_option maxHeartbeats 1000000 in
theorem Due_rngP2 {A A' : Option Addr} {n c n' c' : Nat} (g p : Int) (w : World) (h1c : n ≤ c) (h2c : c ≤ 9223372036854775807) (h3c : n' ≤ c') (h4c : c' ≤ 9223372036854775807)
    (gv : Calls Try.prog 44 #[.slice A n c, .slice A' n' c'] w fun e w' => e = .returned (.int .i64 0) ∧ w = w') (h0 : ¬ g < 1) (h1 : ¬ (n : Int) < g) (h2 : p < 0) :
    Calls Try.prog 14 #[.slice A n c, .slice A' n' c', .int .i64 g, .int .i64 p] w (RetN (0, 2) w) := by
  generalize hV : ((0, 2) : Int × Int) = V
  have HV := Lib.hid hV
  have G := Lib.hid gv
  clear hV gv
  go_enter Try.func14, Try.ntmps14
  go_wp2_with fail
  refine (G.out).mono ?_
  rintro e w' ⟨rfl, rfl⟩
  go_wp2
  go_returns
  rw [← HV.out]
  exact ⟨rfl, Below.refl _ _⟩

set_option maxHeartbeats 1000000 in
theorem Due_rngP3 {A A' : Option Addr} {n c n' c' : Nat} (g p : Int) (w : World) (h1c : n ≤ c) (h2c : c ≤ 9223372036854775807) (h3c : n' ≤ c') (h4c : c' ≤ 9223372036854775807)
    (gv : Calls Try.prog 44 #[.slice A n c, .slice A' n' c'] w fun e w' => e = .returned (.int .i64 0) ∧ w = w') (h0 : ¬ g < 1) (h1 : ¬ (n : Int) < g) (h2 : ¬ p < 0) (h3 : 1000 < p) :
    Calls Try.prog 14 #[.slice A n c, .slice A' n' c', .int .i64 g, .int .i64 p] w (RetN (0, 2) w) := by
  generalize hV : ((0, 2) : Int × Int) = V
  have HV := Lib.hid hV
  have G := Lib.hid gv
  clear hV gv
  go_enter Try.func14, Try.ntmps14
  go_wp2_with fail
  refine (G.out).mono ?_
  rintro e w' ⟨rfl, rfl⟩
  go_wp2
  go_returns
  rw [← HV.out]
  exact ⟨rfl, Below.refl _ _⟩

set_option maxHeartbeats 1000000 in
theorem Due_errP {A A' : Option Addr} {n c n' c' : Nat} (g p x : Int) (w : World) (h1c : n ≤ c) (h2c : c ≤ 9223372036854775807) (h3c : n' ≤ c') (h4c : c' ≤ 9223372036854775807)
    (gv : Calls Try.prog 44 #[.slice A n c, .slice A' n' c'] w fun e w' => e = .returned (.int .i64 x) ∧ w = w') (hx : ((x : Int) != 0) = true) :
    Calls Try.prog 14 #[.slice A n c, .slice A' n' c', .int .i64 g, .int .i64 p] w (RetN (0, x) w) := by
  have G := Lib.hid gv
  clear gv
  go_enter Try.func14, Try.ntmps14
  go_wp2_with fail
  refine (G.out).mono ?_
  rintro e w' ⟨rfl, rfl⟩
  go_wp2
  go_returns
  exact ⟨rfl, Below.refl _ _⟩

theorem Due_calls {A A' : Option Addr} {n c n' c' : Nat} {ts : List (List Int)} {l : List Int} (g p : Int) (w : World) (h : Tab w A n c ts) (h' : Ints w A' n' c' l) :
    Calls Try.prog 14 #[.slice A n c, .slice A' n' c', .int .i64 g, .int .i64 p] w (RetN (DueV ts l g p) w) := by
  have gv := given_calls w h h'
  unfold DueV
  by_cases e : givenE ts l = 0
  · have hnn : n = n' := by rw [← h.len, ← h'.len]; exact (yearOk_of e).len
    rw [if_pos e, h'.len]
    by_cases hr : 1 ≤ g ∧ g ≤ n' ∧ 0 ≤ p ∧ p ≤ 1000
    · rw [if_pos hr]
      obtain ⟨k, rfl⟩ : ∃ k : Nat, g = (k : Int) + 1 := ⟨(g - 1).toNat, by omega⟩
      rw [show ((k : Int) + 1).toNat - 1 = k by omega]
      exact Due_in k p w h h' e (by omega) hr.2.2.1 hr.2.2.2
    · rw [if_neg hr]
      rw [e] at gv
      by_cases h0 : g < 1
      · exact Due_rngP0 g p w h.cap h.max h'.cap h'.max gv h0
      by_cases h1 : (n : Int) < g
      · exact Due_rngP1 g p w h.cap h.max h'.cap h'.max gv h0 h1
      by_cases h2 : p < 0
      · exact Due_rngP2 g p w h.cap h.max h'.cap h'.max gv h0 h1 h2
      · exact Due_rngP3 g p w h.cap h.max h'.cap h'.max gv h0 h1 h2 (by omega)
  · rw [if_neg e]
    exact Due_errP g p _ w h.cap h.max h'.cap h'.max gv (by simp [e])

set_option maxHeartbeats 1000000 in
theorem Due_rngR0 {A A' : Option Addr} {n c n' c' : Nat} (g p : Int) (w : World) (h1c : n ≤ c) (h2c : c ≤ 9223372036854775807) (h3c : n' ≤ c') (h4c : c' ≤ 9223372036854775807)
    (gv : Calls Try.prog 17 #[.slice A n c, .slice A' n' c'] w fun e w' => e = .returned (.int .i64 0) ∧ w = w') (h0 : g < 1) :
    Calls Try.prog 16 #[.slice A n c, .slice A' n' c', .int .i64 g, .int .i64 p] w (RetN (0, 2) w) := by
  generalize hV : ((0, 2) : Int × Int) = V
  have HV := Lib.hid hV
  have G := Lib.hid gv
  clear hV gv
  go_enter Try.func16, Try.ntmps16
  go_wp2_with fail
  refine (G.out).mono ?_
  rintro e w' ⟨rfl, rfl⟩
  go_wp2
  go_returns
  rw [← HV.out]
  exact ⟨rfl, Below.refl _ _⟩

set_option maxHeartbeats 1000000 in
theorem Due_rngR1 {A A' : Option Addr} {n c n' c' : Nat} (g p : Int) (w : World) (h1c : n ≤ c) (h2c : c ≤ 9223372036854775807) (h3c : n' ≤ c') (h4c : c' ≤ 9223372036854775807)
    (gv : Calls Try.prog 17 #[.slice A n c, .slice A' n' c'] w fun e w' => e = .returned (.int .i64 0) ∧ w = w') (h0 : ¬ g < 1) (h1 : (n' : Int) < g) :
    Calls Try.prog 16 #[.slice A n c, .slice A' n' c', .int .i64 g, .int .i64 p] w (RetN (0, 2) w) := by
  generalize hV : ((0, 2) : Int × Int) = V
  have HV := Lib.hid hV
  have G := Lib.hid gv
  clear hV gv
  go_enter Try.func16, Try.ntmps16
  go_wp2_with fail
  refine (G.out).mono ?_
  rintro e w' ⟨rfl, rfl⟩
  go_wp2
  go_returns
  rw [← HV.out]
  exact ⟨rfl, Below.refl _ _⟩

set_option maxHeartbeats 1000000 in
theorem Due_rngR2 {A A' : Option Addr} {n c n' c' : Nat} (g p : Int) (w : World) (h1c : n ≤ c) (h2c : c ≤ 9223372036854775807) (h3c : n' ≤ c') (h4c : c' ≤ 9223372036854775807)
    (gv : Calls Try.prog 17 #[.slice A n c, .slice A' n' c'] w fun e w' => e = .returned (.int .i64 0) ∧ w = w') (h0 : ¬ g < 1) (h1 : ¬ (n' : Int) < g) (h2 : p < 0) :
    Calls Try.prog 16 #[.slice A n c, .slice A' n' c', .int .i64 g, .int .i64 p] w (RetN (0, 2) w) := by
  generalize hV : ((0, 2) : Int × Int) = V
  have HV := Lib.hid hV
  have G := Lib.hid gv
  clear hV gv
  go_enter Try.func16, Try.ntmps16
  go_wp2_with fail
  refine (G.out).mono ?_
  rintro e w' ⟨rfl, rfl⟩
  go_wp2
  go_returns
  rw [← HV.out]
  exact ⟨rfl, Below.refl _ _⟩

set_option maxHeartbeats 1000000 in
theorem Due_rngR3 {A A' : Option Addr} {n c n' c' : Nat} (g p : Int) (w : World) (h1c : n ≤ c) (h2c : c ≤ 9223372036854775807) (h3c : n' ≤ c') (h4c : c' ≤ 9223372036854775807)
    (gv : Calls Try.prog 17 #[.slice A n c, .slice A' n' c'] w fun e w' => e = .returned (.int .i64 0) ∧ w = w') (h0 : ¬ g < 1) (h1 : ¬ (n' : Int) < g) (h2 : ¬ p < 0) (h3 : 1000 < p) :
    Calls Try.prog 16 #[.slice A n c, .slice A' n' c', .int .i64 g, .int .i64 p] w (RetN (0, 2) w) := by
  generalize hV : ((0, 2) : Int × Int) = V
  have HV := Lib.hid hV
  have G := Lib.hid gv
  clear hV gv
  go_enter Try.func16, Try.ntmps16
  go_wp2_with fail
  refine (G.out).mono ?_
  rintro e w' ⟨rfl, rfl⟩
  go_wp2
  go_returns
  rw [← HV.out]
  exact ⟨rfl, Below.refl _ _⟩

set_option maxHeartbeats 1000000 in
theorem Due_errR {A A' : Option Addr} {n c n' c' : Nat} (g p x : Int) (w : World) (h1c : n ≤ c) (h2c : c ≤ 9223372036854775807) (h3c : n' ≤ c') (h4c : c' ≤ 9223372036854775807)
    (gv : Calls Try.prog 17 #[.slice A n c, .slice A' n' c'] w fun e w' => e = .returned (.int .i64 x) ∧ w = w') (hx : ((x : Int) != 0) = true) :
    Calls Try.prog 16 #[.slice A n c, .slice A' n' c', .int .i64 g, .int .i64 p] w (RetN (0, x) w) := by
  have G := Lib.hid gv
  clear gv
  go_enter Try.func16, Try.ntmps16
  go_wp2_with fail
  refine (G.out).mono ?_
  rintro e w' ⟨rfl, rfl⟩
  go_wp2
  go_returns
  exact ⟨rfl, Below.refl _ _⟩

theorem Due_ref {A A' : Option Addr} {n c n' c' : Nat} {ts : List (List Int)} {l : List Int} (g p : Int) (w : World) (h : Tab w A n c ts) (h' : Ints w A' n' c' l) :
    Calls Try.prog 16 #[.slice A n c, .slice A' n' c', .int .i64 g, .int .i64 p] w (RetN (DueV ts l g p) w) := by
  have gv := Given_ref50 w h h'
  unfold DueV
  by_cases e : givenE ts l = 0
  · have hnn : n = n' := by rw [← h.len, ← h'.len]; exact (yearOk_of e).len
    rw [if_pos e, h'.len]
    by_cases hr : 1 ≤ g ∧ g ≤ n' ∧ 0 ≤ p ∧ p ≤ 1000
    · rw [if_pos hr]
      obtain ⟨k, rfl⟩ : ∃ k : Nat, g = (k : Int) + 1 := ⟨(g - 1).toNat, by omega⟩
      rw [show ((k : Int) + 1).toNat - 1 = k by omega]
      exact Due_inR k p w h h' e (by omega) hr.2.2.1 hr.2.2.2
    · rw [if_neg hr]
      rw [e] at gv
      by_cases h0 : g < 1
      · exact Due_rngR0 g p w h.cap h.max h'.cap h'.max gv h0
      by_cases h1 : (n' : Int) < g
      · exact Due_rngR1 g p w h.cap h.max h'.cap h'.max gv h0 h1
      by_cases h2 : p < 0
      · exact Due_rngR2 g p w h.cap h.max h'.cap h'.max gv h0 h1 h2
      · exact Due_rngR3 g p w h.cap h.max h'.cap h'.max gv h0 h1 h2 (by omega)
  · rw [if_neg e]
    exact Due_errR g p _ w h.cap h.max h'.cap h'.max gv (by simp [e])
end Go.Proofs.Ytihaabdgligbbaa
