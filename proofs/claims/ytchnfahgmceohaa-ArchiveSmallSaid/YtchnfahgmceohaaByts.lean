/- Slices of bytes that read as lists, nil let in. No program in sight. -/
import Derived.Test.YtchnfahgmceohaaInts
namespace Go.Proofs.Ytchnfahgmceohaa
open Go.RowKit
set_option linter.unusedVariables false

/-- The slice with base A, length n, capacity c reads as the bytes zs. -/
structure Byts (w : World) (A : Option Addr) (n c : Nat) (zs : List Int) : Prop where
  len : zs.length = n
  cap : n ≤ c
  max : c ≤ 9223372036854775807
  few : n ≤ 140737488351232
  rng : ∀ z ∈ zs, 0 ≤ z ∧ z ≤ 255
  mem : 0 < n → ∃ ad, A = some ad ∧ ad.block < w.heap.size ∧ ∀ j, j < n → w.cell? (ad.add j) = some (.int .u8 (el zs j))
  nl : A = none → c = 0

section
variable {w w' : World} {A : Option Addr} {n c : Nat} {zs : List Int}
theorem Byts.nil (w : World) : Byts w none 0 0 [] := ⟨rfl, Nat.le_refl _, by omega, by omega, by simp, fun h => absurd h (by omega), fun _ => rfl⟩
theorem Byts.at_ (h : Byts w A n c zs) {k : Nat} (hk : k < n) : ∃ ad, A = some ad ∧ ad.block < w.heap.size ∧ w.cell? (ad.add k) = some (.int .u8 (el zs k)) := by
  obtain ⟨ad, e, hb, hc⟩ := h.mem (by omega)
  exact ⟨ad, e, hb, hc k hk⟩
theorem Byts.rngD (h : Byts w A n c zs) (k : Nat) : 0 ≤ el zs k ∧ el zs k ≤ 255 := by
  unfold el
  rw [List.getD_eq_getElem?_getD]
  cases hz : zs[k]? with
  | none => simp
  | some z => exact h.rng z (List.mem_of_getElem? hz)
theorem Byts.below (h : Byts w A n c zs) (hb : Below w.heap.size w w') : Byts w' A n c zs :=
  ⟨h.len, h.cap, h.max, h.few, h.rng, fun hn => by
    obtain ⟨ad, e, hl, hc⟩ := h.mem hn
    exact ⟨ad, e, Nat.lt_of_lt_of_le hl hb.size, fun j hj => (hb.cell (p := ad.add j) (by rw [block_of_add]; exact hl)).trans (hc j hj)⟩, h.nl⟩
theorem Byts.alloc (h : Byts w A n c zs) (o : Obj) : Byts (w.alloc o) A n c zs := h.below ((Below.refl _ _).alloc (Nat.le_refl _) o)
theorem Byts.keep (h : Byts w A n c zs) (hs : w.heap.size ≤ w'.heap.size) (hc : ∀ ad j, A = some ad → j < n → w'.cell? (ad.add j) = w.cell? (ad.add j)) : Byts w' A n c zs :=
  ⟨h.len, h.cap, h.max, h.few, h.rng, fun hn => by
    obtain ⟨ad, e, hl, hm⟩ := h.mem hn
    exact ⟨ad, e, Nat.lt_of_lt_of_le hl hs, fun j hj => (hc ad j e hj).trans (hm j hj)⟩, h.nl⟩
theorem Byts.far (h : Byts w A n c zs) {p : Addr} (hp : ∀ ad, A = some ad → ad.block ≠ p.block) (u : Value) : Byts (w.setCell p u) A n c zs :=
  h.keep (by simp [World.setCell]) fun ad j e _ => World.cell?_setCell_other w p (ad.add j) u (by intro e2; exact hp ad e (by rw [← block_of_add ad j, ← e2]))
theorem Byts.drewN (h : Byts w A n c zs) (k : Nat) : Byts (w.drewN k) A n c zs := ⟨h.len, h.cap, h.max, h.few, h.rng, h.mem, h.nl⟩
/-- Cut from k on. -/
theorem Byts.drop (h : Byts w A n c zs) {k : Nat} (hk : k ≤ n) : Byts w (if c = k then A else A.map (·.add k)) (n - k) (c - k) (zs.drop k) := by
  refine ⟨by rw [List.length_drop, h.len], by have := h.cap; omega, by have := h.max; omega, by have := h.few; omega, fun z hz => h.rng z (List.mem_of_mem_drop hz), fun hn => ?_, fun e => ?_⟩
  rotate_left
  · cases A with
    | none => have := h.nl rfl; omega
    | some ad => split at e <;> cases e
  obtain ⟨ad, rfl, hl, hc⟩ := h.mem (by omega)
  rw [if_neg (by have := h.cap; omega)]
  refine ⟨ad.add k, rfl, by rw [block_of_add]; exact hl, fun j hj => ?_⟩
  rw [add_of_add, hc (k + j) (by omega)]
  simp [el, List.getD_eq_getElem?_getD, List.getElem?_drop]
/-- Cut at k. -/
theorem Byts.take (h : Byts w A n c zs) {k : Nat} (hk : k ≤ n) : Byts w A k c (zs.take k) := by
  refine ⟨by rw [List.length_take, h.len]; omega, by have := h.cap; omega, h.max, by have := h.few; omega, fun z hz => h.rng z (List.mem_of_mem_take hz), fun hn => ?_, h.nl⟩
  obtain ⟨ad, rfl, hl, hc⟩ := h.mem (by omega)
  refine ⟨ad, rfl, hl, fun j hj => ?_⟩
  rw [hc j (by omega), el, el, List.getD_eq_getElem?_getD, List.getD_eq_getElem?_getD, List.getElem?_take, if_pos hj]
end
end Go.Proofs.Ytchnfahgmceohaa
