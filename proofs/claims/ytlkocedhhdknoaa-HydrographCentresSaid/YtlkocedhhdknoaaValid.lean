/- What is a right unit hydrograph, a right series of volumes: the program and the reference say the same. -/
import Derived.Test.YtlkocedhhdknoaaWithin
import Derived.Test.YtlkocedhhdknoaaCasLaw
namespace Go.Proofs.Ytlkocedhhdknoaa
open Go.RowKit
set_option linter.unusedVariables false

def validB (zs : List Int) : Bool := decide (1 ≤ zs.length) && (decide (zs.length ≤ 1000) && (inB 1073741824 zs && !(el zs (zs.length - 1) == 0)))
def seriesB (zs : List Int) : Bool := decide (zs.length ≤ 10000) && inB 1125899906842624 zs

set_option maxHeartbeats 1000000 in
theorem Valid_calls {A : Option Addr} {n c : Nat} {zs : List Int} (w : World) (h : Ints w A n c zs) :
    Calls Try.prog 17 #[.slice A n c] w fun e w' => e = .returned (.bool (validB zs)) ∧ Below w.heap.size w w' := by
  have hl := h.len
  have hcap := h.cap
  have hmax := h.max
  unfold validB
  rw [hl]
  by_cases h1 : (1 : Int) ≤ n
  · rw [decide_eq_true (show 1 ≤ n by omega), Bool.true_and]
    by_cases h2 : (n : Int) ≤ 1000
    · rw [decide_eq_true (show n ≤ 1000 by omega), Bool.true_and]
      have hw := within_calls 1073741824 w h
      obtain ⟨ad, hA, hlt, hc⟩ := h.at_ (show n - 1 < n by omega)
      subst hA
      have HI := Lib.hid (h.alloc (.cells #[.int .i64 1073741824] 3))
      have hc2 : (w.alloc (.cells #[.int .i64 1073741824] 3)).cell? (ad.add (n - 1)) = some (.int .i64 (el zs (n - 1))) := by
        rw [World.cell?_alloc_lt _ _ _ (by rw [block_of_add]; exact hlt)]; exact hc
      cases hin : inB 1073741824 zs
      · rw [Bool.false_and]
        rw [hin] at hw
        have HW := Lib.hid hw
        clear hw hin h hl hc hc2
        go_enter Try.func17, Try.ntmps17
        go_wp2_with fail
        refine HW.out.mono ?_
        rintro e w' ⟨rfl, rfl⟩
        go_wp2
        go_ret
        exact ⟨rfl, (Below.refl _ _).alloc (Nat.le_refl _) _⟩
      · rw [Bool.true_and]
        rw [hin] at hw
        have HW := Lib.hid hw
        have e1 : (n : Int) - 1 = ((n - 1 : Nat) : Int) := by omega
        clear hw hin h hl hc
        generalize el zs (n - 1) = x at *
        go_enter Try.func17, Try.ntmps17
        go_wp2_with fail
        refine HW.out.mono ?_
        rintro e w' ⟨rfl, rfl⟩
        go_wp2
        go_ret
        exact ⟨rfl, (Below.refl _ _).alloc (Nat.le_refl _) _⟩
    · rw [decide_eq_false (show ¬ n ≤ 1000 by omega), Bool.false_and]
      clear h
      go_enter Try.func17, Try.ntmps17
      go_wp2
      go_ret
      exact ⟨rfl, Below.refl _ _⟩
  · rw [decide_eq_false (show ¬ 1 ≤ n by omega), Bool.false_and]
    clear h
    go_enter Try.func17, Try.ntmps17
    go_wp2
    go_ret
    exact ⟨rfl, Below.refl _ _⟩

set_option maxHeartbeats 1000000 in
theorem series_calls {A : Option Addr} {n c : Nat} {zs : List Int} (w : World) (h : Ints w A n c zs) :
    Calls Try.prog 41 #[.slice A n c] w fun e w' => e = .returned (.bool (seriesB zs)) ∧ Below w.heap.size w w' := by
  have hl := h.len
  unfold seriesB
  rw [hl]
  by_cases h2 : (n : Int) ≤ 10000
  · rw [decide_eq_true (show n ≤ 10000 by omega), Bool.true_and]
    have hw := within_calls 1125899906842624 w h
    generalize inB 1125899906842624 zs = q at *
    have HW := Lib.hid hw
    clear hw h hl
    go_enter Try.func41, Try.ntmps41
    go_wp2_with fail
    refine HW.out.mono ?_
    rintro e w' ⟨rfl, rfl⟩
    go_wp2
    go_ret
    exact ⟨rfl, (Below.refl _ _).alloc (Nat.le_refl _) _⟩
  · rw [decide_eq_false (show ¬ n ≤ 10000 by omega), Bool.false_and]
    clear h
    go_enter Try.func41, Try.ntmps41
    go_wp2
    go_ret
    exact ⟨rfl, Below.refl _ _⟩

theorem in_step {m : Int} {zs : List Int} {k : Nat} (h : ∀ j, j < k → badB m (el zs j) = false) (h0 : ¬ el zs k < 0) (h1 : ¬ m < el zs k) : ∀ j, j < k + 1 → badB m (el zs j) = false := fun j hj => by
  by_cases hjk : j = k
  · subst hjk; unfold badB; rw [decide_eq_false h0, decide_eq_false h1]; rfl
  · exact h j (by omega)
theorem in_all {m : Int} {zs : List Int} (h : ∀ j, j < zs.length → badB m (el zs j) = false) : inB m zs = true := by
  unfold inB anyBad; rw [any_take h]; rfl
theorem in_low {m : Int} {zs : List Int} {k : Nat} (hk : k < zs.length) (h : el zs k < 0) : inB m zs = false := by
  unfold inB anyBad; rw [any_at hk (by unfold badB; rw [decide_eq_true h]; rfl)]; rfl
theorem in_high {m : Int} {zs : List Int} {k : Nat} (hk : k < zs.length) (h : m < el zs k) : inB m zs = false := by
  unfold inB anyBad; rw [any_at hk (by unfold badB; rw [decide_eq_true h, Bool.or_true])]; rfl

set_option maxHeartbeats 1000000 in
theorem Series_ref {A : Option Addr} {n c : Nat} {zs : List Int} (w : World) (h : Ints w A n c zs) :
    Calls Try.prog 22 #[.slice A n c] w fun e w' => e = .returned (.bool (seriesB zs)) ∧ w = w' := by
  have HL := Lib.hid h.len
  have hcap := h.cap
  have hmax := h.max
  obtain ⟨q, hq⟩ : ∃ q, seriesB zs = q := ⟨_, rfl⟩
  rw [hq]
  unfold seriesB at hq
  rw [HL.out] at hq
  have HQ := Lib.hid hq
  have H := Lib.hid h
  clear hq h
  by_cases h2 : 10000 < (n : Int)
  · go_enter Try.func22, Try.ntmps22
    go_wp2
    go_ret
    exact ⟨ret_b (by rw [← HQ.out, decide_eq_false (by omega)]; rfl), rfl⟩
  · go_enter Try.func22, Try.ntmps22
    go_wp2
    go_loop [3] (fun i => ∃ k : Nat, k ≤ n ∧ i = .int .i64 k ∧ ∀ j, j < k → badB 1125899906842624 (el zs j) = false) (fun i => n - (intOf i).toNat)
    case atStart => exact ⟨0, Nat.zero_le _, rfl, fun j hj => absurd hj (by omega)⟩
    case round =>
      obtain ⟨k, hk, rfl, hno⟩ := hrel
      have HN := Lib.hid hno
      clear hno
      by_cases hlt : k < n
      · obtain ⟨ad, rfl, hl, hc⟩ := H.out.at_ hlt
        have S1 := @in_step 1125899906842624 zs k HN.out
        have S2 := @in_low 1125899906842624 zs k (by rw [HL.out]; exact hlt)
        have S3 := @in_high 1125899906842624 zs k (by rw [HL.out]; exact hlt)
        have HS1 := Lib.hid S1
        have HS2 := Lib.hid S2
        have HS3 := Lib.hid S3
        clear S1 S2 S3
        generalize el zs k = x at *
        by_cases b0 : x < 0
        · go_wp2
          go_ret
          exact ⟨ret_b (by rw [← HQ.out, HS2.out b0, Bool.and_false]), rfl⟩
        · by_cases b1 : 1125899906842624 < x
          · go_wp2
            go_ret
            exact ⟨ret_b (by rw [← HQ.out, HS3.out b1, Bool.and_false]), rfl⟩
          · go_wp2
            go_round
            case rel => exact ⟨k + 1, by omega, by go_num, HS1.out (by omega) (by omega)⟩
            case measure => simp [intOf]; try omega
      · go_wp2
        go_ret
        exact ⟨ret_b (by rw [← HQ.out, in_all (fun j hj => HN.out j (by rw [HL.out] at hj; omega)), decide_eq_true (by omega)]; rfl), rfl⟩

theorem pos_ne {x : Int} (h : 0 ≤ x) : decide (0 < x) = (true && (true && (true && !(x == 0)))) := by
  simp only [Bool.true_and]
  by_cases hx : x = 0
  · subst hx; rfl
  · rw [decide_eq_true (by omega)]; simp [hx]
set_option maxHeartbeats 1000000 in
theorem Valid_ref {A : Option Addr} {n c : Nat} {zs : List Int} (w : World) (h : Ints w A n c zs) :
    Calls Try.prog 18 #[.slice A n c] w fun e w' => e = .returned (.bool (validB zs)) ∧ w = w' := by
  have HL := Lib.hid h.len
  have hcap := h.cap
  have hmax := h.max
  obtain ⟨q, hq⟩ : ∃ q, validB zs = q := ⟨_, rfl⟩
  rw [hq]
  unfold validB at hq
  rw [HL.out] at hq
  have HQ := Lib.hid hq
  have H := Lib.hid h
  clear hq h
  by_cases h1 : (n : Int) < 1
  · go_enter Try.func18, Try.ntmps18
    go_wp2
    go_ret
    exact ⟨ret_b (by rw [← HQ.out, decide_eq_false (by omega)]; rfl), rfl⟩
  by_cases h2 : 1000 < (n : Int)
  · go_enter Try.func18, Try.ntmps18
    go_wp2
    go_ret
    exact ⟨ret_b (by rw [← HQ.out, decide_eq_true (by omega), decide_eq_false (show ¬ n ≤ 1000 by omega)]; rfl), rfl⟩
  · go_enter Try.func18, Try.ntmps18
    go_wp2
    go_loop [3] (fun i => ∃ k : Nat, k ≤ n ∧ i = .int .i64 k ∧ ∀ j, j < k → badB 1073741824 (el zs j) = false) (fun i => n - (intOf i).toNat)
    case atStart => exact ⟨0, Nat.zero_le _, rfl, fun j hj => absurd hj (by omega)⟩
    case round =>
      obtain ⟨k, hk, rfl, hno⟩ := hrel
      have HN := Lib.hid hno
      clear hno
      by_cases hlt : k < n
      · obtain ⟨ad, rfl, hl, hc⟩ := H.out.at_ hlt
        have S1 := @in_step 1073741824 zs k HN.out
        have S2 := @in_low 1073741824 zs k (by rw [HL.out]; exact hlt)
        have S3 := @in_high 1073741824 zs k (by rw [HL.out]; exact hlt)
        have HS1 := Lib.hid S1
        have HS2 := Lib.hid S2
        have HS3 := Lib.hid S3
        clear S1 S2 S3
        generalize el zs k = x at *
        by_cases b0 : x < 0
        · go_wp2
          go_ret
          exact ⟨ret_b (by rw [← HQ.out, HS2.out b0, Bool.false_and, Bool.and_false, Bool.and_false]), rfl⟩
        · by_cases b1 : 1073741824 < x
          · go_wp2
            go_ret
            exact ⟨ret_b (by rw [← HQ.out, HS3.out b1, Bool.false_and, Bool.and_false, Bool.and_false]), rfl⟩
          · go_wp2
            go_round
            case rel => exact ⟨k + 1, by omega, by go_num, HS1.out (by omega) (by omega)⟩
            case measure => simp [intOf]; try omega
      · obtain ⟨ad, rfl, hl, hc⟩ := H.out.at_ (show n - 1 < n by omega)
        have hin := in_all (fun j hj => HN.out j (by rw [HL.out] at hj; omega))
        have hpos := (inB_el hin (show n - 1 < zs.length by rw [HL.out]; omega)).1
        have HIN := Lib.hid hin
        have HP := Lib.hid hpos
        clear hin hpos
        go_wp2
        go_ret
        refine ⟨ret_b ?_, rfl⟩
        rw [← HQ.out, HIN.out, decide_eq_true (show 1 ≤ n by omega), decide_eq_true (show n ≤ 1000 by omega)]
        exact pos_ne HP.out

def sumL (zs : List Int) : Int := sumF (el zs) zs.length
theorem sumF_bd {F : Nat → Int} {n : Nat} {m : Int} (h : ∀ k, k < n → 0 ≤ F k ∧ F k ≤ m) : 0 ≤ sumF F n ∧ sumF F n ≤ n * m := by
  induction n with
  | zero => simp [sumF]
  | succ n ih =>
    have h1 := ih (fun k hk => h k (by omega))
    have h2 := h n (by omega)
    rw [sumF, Int.natCast_add, Int.add_mul]
    omega
/-- The sum, where no partial sum leaves the range. -/
theorem Sum_ref {A : Option Addr} {n c : Nat} {zs : List Int} (w : World) (h : Ints w A n c zs) (hs : ∀ k, k ≤ n → -4611686018427387904 ≤ sumF (el zs) k ∧ sumF (el zs) k ≤ 4611686018427387904) :
    Calls Try.prog 23 #[.slice A n c] w fun e w' => e = .returned (.int .i64 (sumL zs)) ∧ w = w' := by
  have HL := Lib.hid h.len
  have hcap := h.cap
  have hmax := h.max
  have HS := Lib.hid hs
  have H := Lib.hid h
  clear hs h
  go_enter Try.func23, Try.ntmps23
  go_wp2
  go_loop [3, 4] (fun s i => ∃ k : Nat, k ≤ n ∧ i = .int .i64 k ∧ s = .int .i64 (sumF (el zs) k)) (fun _ i => n - (intOf i).toNat)
  case atStart => exact ⟨0, Nat.zero_le _, rfl, rfl⟩
  case round =>
    obtain ⟨k, hk, rfl, rfl⟩ := hrel
    by_cases hlt : k < n
    · obtain ⟨ad, rfl, hl, hc⟩ := H.out.at_ hlt
      have b0 := HS.out k hk
      have b1 := HS.out (k + 1) hlt
      rw [sumF] at b1
      have HE : Hid (sumF (el zs) (k + 1) = sumF (el zs) k + el zs k) := Lib.hid rfl
      have hr := H.out.rngD k
      obtain ⟨b00, b01⟩ := b0
      obtain ⟨b10, b11⟩ := b1
      go_wp2
      go_round
      case rel => exact ⟨k + 1, by omega, by go_num, by rw [HE.out]⟩
      case measure => simp [intOf]; try omega
    · obtain rfl : k = n := by omega
      go_wp2
      go_ret
      exact ⟨ret_i (by unfold sumL; rw [HL.out]), rfl⟩

set_option maxHeartbeats 1000000 in
theorem many_calls {A : Option Addr} {n c : Nat} {zs : List Int} (a b : Int) (hb0 : 0 ≤ b) (hb : b ≤ 1000000) (w : World) (h : Ints w A n c zs) :
    Calls Try.prog 12 #[.slice A n c, .int .i64 a, .int .i64 b] w fun e w' => e = .returned (.bool (decide (a < n) && decide ((n : Int) ≤ b) || decide (b + 100 < n))) ∧ w = w' := by
  have hmax := h.max
  have hcap := h.cap
  by_cases h1 : a < (n : Int)
  · by_cases h2 : (n : Int) ≤ b
    · rw [decide_eq_true h1, decide_eq_true h2, Bool.and_self, Bool.true_or]
      go_enter Try.func12, Try.ntmps12
      go_wp2
      go_ret
      exact ⟨rfl, rfl⟩
    · rw [decide_eq_true h1, decide_eq_false h2, Bool.and_false, Bool.false_or]
      go_enter Try.func12, Try.ntmps12
      go_wp2
      go_ret
      exact ⟨rfl, rfl⟩
  · rw [decide_eq_false h1, Bool.false_and, Bool.false_or]
    go_enter Try.func12, Try.ntmps12
    go_wp2
    go_ret
    exact ⟨rfl, rfl⟩
end Go.Proofs.Ytlkocedhhdknoaa
