/- Monotone of the program and of the reference. -/
import Derived.Test.YtihaabdgligbbaaWorse
import Derived.IntWalk
namespace Go.Proofs.Ytihaabdgligbbaa
open Go.RowKit
set_option linter.unusedVariables false

def monoB (ts : List (List Int)) : Bool := (List.range ts.length).all fun i => decide (i = 0) || badV (tl ts i) (tl ts (i - 1))
theorem monoB_iff {ts : List (List Int)} : monoB ts = true ↔ ∀ m, m + 1 < ts.length → badV (tl ts (m + 1)) (tl ts m) = true := by
  unfold monoB
  simp only [List.all_eq_true, List.mem_range, Bool.or_eq_true, decide_eq_true_eq]
  constructor
  · intro h m hm
    rcases h (m + 1) hm with h | h
    · omega
    · exact h
  · intro h i hi
    by_cases h0 : i = 0
    · exact .inl h0
    · right
      obtain ⟨m, rfl⟩ : ∃ m, i = m + 1 := ⟨i - 1, by omega⟩
      exact h m hi
theorem monoB_not {ts : List (List Int)} {m : Nat} (hm : m + 1 < ts.length) (h : badV (tl ts (m + 1)) (tl ts m) = false) : monoB ts = false := by
  cases e : monoB ts
  · rfl
  · rw [monoB_iff] at e; rw [e m hm] at h; cases h
theorem row_in {ts : List (List Int)} (h : validT ts = true) {k : Nat} (hk : k < ts.length) : (tl ts k).length = ts.length ∧ inB 1125899906842624 (tl ts k) = true := by
  obtain ⟨h1, h2, h3, h4⟩ := rowB_parts ((validT_parts h).2.2 k hk)
  exact ⟨h1, inB_mono h2 (by omega)⟩

set_option maxHeartbeats 1000000 in
theorem Monotone_in {A : Option Addr} {n c : Nat} {ts : List (List Int)} (w : World) (h : Tab w A n c ts) (hv : validT ts = true) :
    Calls Try.prog 28 #[.slice A n c] w (RetB (monoB ts, 0) w) := by
  have hcap := h.cap
  have hmax := h.max
  have va := Valid_calls w h
  rw [hv] at va
  have VA := Lib.hid va
  have hn8 : (n : Int) ≤ 8 := by have := (validT_parts hv).2.1; rw [h.len] at this; omega
  obtain ⟨V, hV⟩ : ∃ V, monoB ts = V := ⟨_, rfl⟩
  rw [hV]
  have HV := Lib.hid hV
  have HVT := Lib.hid hv
  have H := Lib.hid h
  have HL := Lib.hid h.len
  clear h hv hV va
  go_enter Try.func28, Try.ntmps28
  go_wp2_with fail
  refine (VA.out).mono ?_
  rintro e w' ⟨rfl, rfl⟩
  go_wp2
  go_loopw [10] (fun i wr => ∃ k : Nat, k ≤ n ∧ i = .int .i64 k ∧ (∀ m, m + 1 < k → badV (tl ts (m + 1)) (tl ts m) = true) ∧ ∃ d, wr = w.drewN d) (fun i _ => n - (intOf i).toNat)
  case atStart => exact ⟨0, Nat.zero_le _, rfl, fun j hj => absurd hj (by omega), 0, rfl⟩
  case round =>
    obtain ⟨k, hk, rfl, hall, d, rfl⟩ := hrel
    have HALL := Lib.hid hall
    clear hall
    by_cases hlt : k < n
    · by_cases h0 : k = 0
      · subst h0
        have hd : decide ((0 : Int) < ((0 : Nat) : Int)) = false := by decide
        go_wp2
        go_quiet (fail)
        go_wp2
        go_roundw
        case rel => exact ⟨1, by omega, by go_num, fun m hm => absurd hm (by omega), _, rfl⟩
        case measure => simp [intOf]; try omega
      · obtain ⟨m, hkm⟩ : ∃ m, m + 1 = k := ⟨k - 1, by omega⟩
        obtain ⟨ad, A1, n1, c1, rfl, hl, hc, hi⟩ := H.out.at_ hlt
        obtain ⟨ad', A2, n2, c2, e, hl', hc', hi'⟩ := H.out.at_ (show m < n by omega)
        injection e with e
        subst e
        have r1 := row_in HVT.out (show k < ts.length by rw [HL.out]; exact hlt)
        have r2 := row_in HVT.out (show m < ts.length by rw [HL.out]; omega)
        obtain rfl : n1 = n := by rw [← hi.len, r1.1, HL.out]
        obtain rfl : n2 = n1 := by rw [← hi'.len, r2.1, HL.out]
        have at1 : ∀ j, Calls Try.prog 53 #[.slice A1 n2 c1, .slice A2 n2 c2] (w.drewN (d + j)) fun e w'' => e = .returned (.bool (badV (tl ts k) (tl ts m))) ∧ ∃ mm, w'' = w.drewN (d + mm) := fun j =>
          (atLeast_calls (w.drewN (d + j)) (hi.drewN _) (hi'.drewN _) r1.2 r2.2 (by omega)).mono fun _ _ ⟨he, x, hx⟩ => ⟨he, j + x, by rw [hx, World.drewN_drewN, Nat.add_assoc]⟩
        have hno : badV (tl ts k) (tl ts m) = false → V = false := fun h => by rw [← HV.out]; exact monoB_not (m := m) (by rw [HL.out, hkm]; exact hlt) (by rw [hkm]; exact h)
        have HS : Hid (badV (tl ts k) (tl ts m) = true → ∀ j, j + 1 < k + 1 → badV (tl ts (j + 1)) (tl ts j) = true) := Lib.hid fun h j hj => by
          by_cases hjk : j = m
          · subst hjk; rw [hkm]; exact h
          · exact HALL.out j (by omega)
        generalize badV (tl ts k) (tl ts m) = q at *
        have AT1 := Lib.hid at1
        have HNO := Lib.hid hno
        have e1 : IntKind.i64.wrap ((k : Int) - 1) = (m : Int) := by rw [show (k : Int) - 1 = m by omega]; exact IntWalk.i64_in _ (by omega)
        have e2 : (0 : Int) < k := by omega
        have e3 : (0 : Int) ≤ m := by omega
        have e4 : (m : Int) < n2 := by omega
        have e5 : (k : Int) < n2 := by omega
        have e6 : (0 : Int) ≤ k := by omega
        have e7 : 0 < k := by omega
        clear at1 hno hi hi' r1 r2 hkm
        cases q
        · have hv := HNO.out rfl
          subst hv
          go_wp2
          go_quiet ((go_at_call 53; exact AT1.out _))
          clear e1
          go_wp2
          go_returns
          exact ⟨rfl, below_drewN (below_drewN (Below.refl _ _) _) _⟩
        · have HX := Lib.hid (HS.out rfl)
          go_wp2
          go_quiet ((go_at_call 53; exact AT1.out _))
          clear e1
          go_wp2
          go_roundw
          case rel => exact ⟨k + 1, by omega, by go_num, HX.out, _, rfl⟩
          case measure => simp [intOf]; try omega
    · obtain rfl : k = n := by omega
      have hv : V = true := by rw [← HV.out]; exact monoB_iff.2 (by rw [HL.out]; exact HALL.out)
      subst hv
      go_wp2
      go_returns
      exact ⟨rfl, below_drewN (Below.refl _ _) _⟩

def MonoV (ts : List (List Int)) : Bool × Int := if validT ts = true then (monoB ts, 0) else (false, 1)
set_option maxHeartbeats 1000000 in
theorem Monotone_calls {A : Option Addr} {n c : Nat} {ts : List (List Int)} (w : World) (h : Tab w A n c ts) :
    Calls Try.prog 28 #[.slice A n c] w (RetB (MonoV ts) w) := by
  unfold MonoV
  cases hv : validT ts
  · have hcap := h.cap
    have hmax := h.max
    have va := Valid_calls w h
    rw [hv] at va
    have VA := Lib.hid va
    rw [if_neg (by decide)]
    clear va hv h
    go_enter Try.func28, Try.ntmps28
    go_wp2_with fail
    refine (VA.out).mono ?_
    rintro e w' ⟨rfl, rfl⟩
    go_wp2
    go_returns
    exact ⟨rfl, Below.refl _ _⟩
  · rw [if_pos rfl]
    exact Monotone_in w h hv

set_option maxHeartbeats 1000000 in
theorem Monotone_ref {A : Option Addr} {n c : Nat} {ts : List (List Int)} (w : World) (h : Tab w A n c ts) (hv : validT ts = true) :
    Calls Try.prog 31 #[.slice A n c] w fun e w' => e = .returned (.bool (monoB ts)) ∧ Below w.heap.size w w' := by
  have hcap := h.cap
  have hmax := h.max
  have hn8 : (n : Int) ≤ 8 := by have := (validT_parts hv).2.1; rw [h.len] at this; omega
  have hn1 : 1 ≤ n := by have := (validT_parts hv).1; rw [h.len] at this; omega
  obtain ⟨V, hV⟩ : ∃ V, monoB ts = V := ⟨_, rfl⟩
  rw [hV]
  have HV := Lib.hid hV
  have HVT := Lib.hid hv
  have H := Lib.hid h
  have HL := Lib.hid h.len
  clear h hv hV
  go_enter Try.func31, Try.ntmps31
  go_wp2
  go_loopw [3] (fun i wr => ∃ k : Nat, k ≤ n ∧ 1 ≤ k ∧ i = .int .i64 k ∧ (∀ m, m + 1 < k → badV (tl ts (m + 1)) (tl ts m) = true) ∧ ∃ d, wr = w.drewN d) (fun i _ => n - (intOf i).toNat)
  case atStart => exact ⟨1, hn1, Nat.le_refl _, rfl, fun j hj => absurd hj (by omega), 0, rfl⟩
  case round =>
    obtain ⟨k, hk, hk1, rfl, hall, d, rfl⟩ := hrel
    have HALL := Lib.hid hall
    clear hall
    by_cases hlt : k < n
    · obtain ⟨m, hkm⟩ : ∃ m, m + 1 = k := ⟨k - 1, by omega⟩
      obtain ⟨ad, A1, n1, c1, rfl, hl, hc, hi⟩ := H.out.at_ hlt
      obtain ⟨ad', A2, n2, c2, e, hl', hc', hi'⟩ := H.out.at_ (show m < n by omega)
      injection e with e
      subst e
      have r1 := row_in HVT.out (show k < ts.length by rw [HL.out]; exact hlt)
      have r2 := row_in HVT.out (show m < ts.length by rw [HL.out]; omega)
      obtain rfl : n1 = n := by rw [← hi.len, r1.1, HL.out]
      obtain rfl : n2 = n1 := by rw [← hi'.len, r2.1, HL.out]
      have at1 : ∀ j, Calls Try.prog 57 #[.slice A1 n2 c1, .slice A2 n2 c2] (w.drewN (d + j)) fun e w'' => e = .returned (.bool (badV (tl ts k) (tl ts m))) ∧ ∃ mm, w'' = w.drewN (d + mm) := fun j =>
        q_add (Bad_ref (w.drewN (d + j)) (hi.drewN _) (hi'.drewN _) r1.2 r2.2 (by omega))
      have hno : badV (tl ts k) (tl ts m) = false → V = false := fun h => by rw [← HV.out]; exact monoB_not (m := m) (by rw [HL.out, hkm]; exact hlt) (by rw [hkm]; exact h)
      have HS : Hid (badV (tl ts k) (tl ts m) = true → ∀ j, j + 1 < k + 1 → badV (tl ts (j + 1)) (tl ts j) = true) := Lib.hid fun h j hj => by
        by_cases hjk : j = m
        · subst hjk; rw [hkm]; exact h
        · exact HALL.out j (by omega)
      generalize badV (tl ts k) (tl ts m) = q at *
      have AT1 := Lib.hid at1
      have HNO := Lib.hid hno
      have e1 : IntKind.i64.wrap ((k : Int) - 1) = (m : Int) := by rw [show (k : Int) - 1 = m by omega]; exact IntWalk.i64_in _ (by omega)
      have e3 : (0 : Int) ≤ m := by omega
      have e4 : (m : Int) < n2 := by omega
      have e5 : (k : Int) < n2 := by omega
      have e6 : (0 : Int) ≤ k := by omega
      clear at1 hno hi hi' r1 r2 hkm
      cases q
      · have hv := HNO.out rfl
        subst hv
        go_wp2
        go_quiet ((go_at_call 57; exact AT1.out _))
        clear e1
        go_wp2
        go_returns
        exact ⟨rfl, below_drewN (below_drewN (Below.refl _ _) _) _⟩
      · have HX := Lib.hid (HS.out rfl)
        go_wp2
        go_quiet ((go_at_call 57; exact AT1.out _))
        clear e1
        go_wp2
        go_roundw
        case rel => exact ⟨k + 1, by omega, by omega, by go_num, HX.out, _, rfl⟩
        case measure => simp [intOf]; try omega
    · obtain rfl : k = n := by omega
      have hv : V = true := by rw [← HV.out]; exact monoB_iff.2 (by rw [HL.out]; exact HALL.out)
      subst hv
      go_wp2
      go_returns
      exact ⟨rfl, below_drewN (Below.refl _ _) _⟩
end Go.Proofs.Ytihaabdgligbbaa
