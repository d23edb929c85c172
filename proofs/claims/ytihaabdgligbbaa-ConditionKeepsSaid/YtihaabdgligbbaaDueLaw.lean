/- Due is the first year: the plain law. The law's tail, and its closure. -/
import Derived.Test.YtihaabdgligbbaaDueAll
import Derived.Test.YtihaabdgligbbaaBad
import Derived.Test.YtihaabdgligbbaaAfter
import Derived.IntWalk
namespace Go.Proofs.Ytihaabdgligbbaa
open Go.RowKit
set_option linter.unusedVariables false

theorem due_cases (ts : List (List Int)) (l : List Int) (g : Nat) (p : Int) : ∀ f k,
    (∃ j, k ≤ j ∧ j < k + f ∧ dueB ts l g p j = true ∧ (∀ i, k ≤ i → i < j → dueB ts l g p i = false) ∧ dueFrom ts l g p f k = ((j : Int), 0)) ∨
    ((∀ i, k ≤ i → i < k + f → dueB ts l g p i = false) ∧ dueFrom ts l g p f k = (0, 12))
  | 0, k => .inr ⟨fun i h1 h2 => absurd h2 (by omega), rfl⟩
  | f + 1, k => by
    rw [dueFrom]
    cases e : dueB ts l g p k
    · rw [if_neg (by decide)]
      rcases due_cases ts l g p f (k + 1) with ⟨j, h1, h2, h3, h4, h5⟩ | ⟨h1, h2⟩
      · refine .inl ⟨j, by omega, by omega, h3, fun i hi hij => ?_, h5⟩
        by_cases h : i = k
        · subst h; exact e
        · exact h4 i (by omega) hij
      · refine .inr ⟨fun i hi hij => ?_, h2⟩
        by_cases h : i = k
        · subst h; exact e
        · exact h1 i (by omega) (by omega)
    · rw [if_pos rfl]
      exact .inl ⟨k, Nat.le_refl _, by omega, e, fun i h1 h2 => absurd h2 (by omega), rfl⟩
theorem dueB_mono {ts : List (List Int)} {l : List Int} (ok : YearOk ts l) {g : Nat} {p q : Int} (hpq : p ≤ q) {k : Nat} (h : dueB ts l g q k = true) : dueB ts l g p k = true := by
  unfold dueB at *
  rw [decide_eq_true_eq] at *
  have h1 := sum_nonneg (stockB_parts (ok.years k).1.s).2.2.1
  have h2 := Int.mul_le_mul_of_nonneg_right hpq h1
  omega
/-- What Due gives for a part and for a greater one. -/
theorem due_two {ts : List (List Int)} {l : List Int} (ok : YearOk ts l) (g : Nat) {p q : Int} (hpq : p ≤ q) :
    (∃ j : Nat, j ≤ 200 ∧ dueFrom ts l g p 201 0 = ((j : Int), 0) ∧ dueB ts l g p j = true ∧ (0 < j → dueB ts l g p (j - 1) = false) ∧ ((∃ j2 : Nat, j2 ≤ 200 ∧ j ≤ j2 ∧ dueFrom ts l g q 201 0 = ((j2 : Int), 0)) ∨ dueFrom ts l g q 201 0 = (0, 12))) ∨
    (dueFrom ts l g p 201 0 = (0, 12) ∧ dueB ts l g p 200 = false ∧ dueFrom ts l g q 201 0 = (0, 12)) := by
  rcases due_cases ts l g p 201 0 with ⟨j, h1, h2, h3, h4, h5⟩ | ⟨h1, h2⟩
  · refine .inl ⟨j, by omega, h5, h3, fun h => h4 _ (by omega) (by omega), ?_⟩
    rcases due_cases ts l g q 201 0 with ⟨j2, k1, k2, k3, k4, k5⟩ | ⟨k1, k2⟩
    · refine .inl ⟨j2, by omega, ?_, k5⟩
      by_cases h : j ≤ j2
      · exact h
      · have := h4 j2 (by omega) (by omega)
        rw [dueB_mono ok hpq k3] at this
        cases this
    · exact .inr k2
  · refine .inr ⟨h2, h1 200 (by omega) (by omega), ?_⟩
    rcases due_cases ts l g q 201 0 with ⟨j2, k1, k2, k3, k4, k5⟩ | ⟨k1, k2⟩
    · have := h1 j2 (by omega) (by omega)
      rw [dueB_mono ok hpq k3] at this
      cases this
    · exact k2

set_option maxHeartbeats 1000000 in
theorem tail_calls {A : Option Addr} {n c : Nat} {l : List Int} (k : Nat) (w : World) (h : Ints w A n c l) (hk : k < n) (hs : Fits (l.drop k)) :
    Calls Try.prog 20 #[.slice A n c, .int .i64 k] w fun e w' => e = .returned (.int .i64 (tlS l k)) ∧ w = w' := by
  have hcap := h.cap
  have hmax := h.max
  have i2 := h.drop (show k ≤ n by omega)
  rw [if_neg (show ¬ c = k by omega)] at i2
  unfold tlS
  obtain ⟨zs, hz⟩ : ∃ zs, l.drop k = zs := ⟨_, rfl⟩
  rw [hz] at i2 hs ⊢
  obtain ⟨ad, rfl, hl, -⟩ := h.at_ hk
  rw [Option.map_some] at i2
  obtain ⟨q, hq⟩ : ∃ q, ad.add k = q := ⟨_, rfl⟩
  rw [hq] at i2
  obtain ⟨m, hm⟩ : ∃ m, n - k = m := ⟨_, rfl⟩
  obtain ⟨d, hd⟩ : ∃ d, c - k = d := ⟨_, rfl⟩
  rw [hm, hd] at i2
  have hc2 := i2.cap
  have hm2 := i2.max
  have HL := Lib.hid i2.len
  have HS := Lib.hid hs
  have H := Lib.hid i2
  clear h hz hs i2 hl
  go_enter Try.func20, Try.ntmps20
  go_wp2
  clear hq hm hd
  go_loop [5, 12] (fun s i => ∃ j : Nat, j ≤ m ∧ i = .int .i64 j ∧ s = .int .i64 (sumF (el zs) j)) (fun _ i => m - (intOf i).toNat)
  case atStart => exact ⟨0, Nat.zero_le _, rfl, rfl⟩
  case round =>
    obtain ⟨j, hj, rfl, rfl⟩ := hrel
    by_cases hlt : j < m
    · obtain ⟨ad2, e, hl, hc⟩ := H.out.at_ hlt
      obtain rfl := Option.some.inj e
      have b0 := HS.out j (by rw [HL.out]; exact hj)
      have b1 := HS.out (j + 1) (by rw [HL.out]; exact hlt)
      rw [sumF] at b1
      have HE : Hid (sumF (el zs) (j + 1) = sumF (el zs) j + el zs j) := Lib.hid rfl
      have hr := H.out.rngD j
      obtain ⟨b00, b01⟩ := b0
      obtain ⟨b10, b11⟩ := b1
      go_wp2
      go_round
      case rel => exact ⟨j + 1, by omega, by go_num, by rw [HE.out]⟩
      case measure => simp [intOf]; try omega
    · obtain rfl : j = m := by omega
      go_wp2
      go_ret
      exact ⟨ret_i (by unfold sumL; rw [HL.out]), rfl⟩
end Go.Proofs.Ytihaabdgligbbaa
