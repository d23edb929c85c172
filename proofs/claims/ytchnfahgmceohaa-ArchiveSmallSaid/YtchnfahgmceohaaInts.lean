/- Slices of integers that read as lists, nil let in: what they are, what keeps them, what reading and cutting gives. No program in sight. -/
import Derived.Below
import Derived.Laws.OwnMore
import Derived.Deep.AppendLies
import Derived.Deep.Draws
import Derived.Lib.Hide
import Derived.ChangeSlices
namespace Go.Proofs.Ytchnfahgmceohaa
open Go.RowKit
set_option linter.unusedVariables false

theorem below_then {B : Nat} {a b c : World} (h : Below B a b) (k : Below b.heap.size b c) (hs : B ≤ b.heap.size) : Below B a c := h.trans (k.mono hs)
theorem block_of_add (a : Addr) (n : Nat) : (a.add n).block = a.block := by unfold Addr.add; split <;> rfl
theorem add_of_add (a : Addr) (i j : Nat) : (a.add i).add j = a.add (i + j) := by
  unfold Addr.add
  by_cases hi : i = 0 <;> by_cases hj : j = 0 <;> simp [hi, hj, Nat.add_assoc]

/-- The element k of a list of integers, 0 behind its end. -/
def el (zs : List Int) (k : Nat) : Int := zs.getD k 0
/-- The slice with base A, length n, capacity c reads as the integers zs. -/
structure Ints (w : World) (A : Option Addr) (n c : Nat) (zs : List Int) : Prop where
  len : zs.length = n
  cap : n ≤ c
  max : c ≤ 9223372036854775807
  few : n ≤ 17592186044416
  rng : ∀ z ∈ zs, -9223372036854775808 ≤ z ∧ z ≤ 9223372036854775807
  mem : 0 < n → ∃ ad, A = some ad ∧ ad.block < w.heap.size ∧ ∀ j, j < n → w.cell? (ad.add j) = some (.int .i64 (el zs j))
  nl : A = none → c = 0

section
variable {w w' : World} {A : Option Addr} {n c : Nat} {zs : List Int}
theorem Ints.nil (w : World) : Ints w none 0 0 [] := ⟨rfl, Nat.le_refl _, by omega, by omega, by simp, fun h => absurd h (by omega), fun _ => rfl⟩
theorem Ints.at_ (h : Ints w A n c zs) {k : Nat} (hk : k < n) : ∃ ad, A = some ad ∧ ad.block < w.heap.size ∧ w.cell? (ad.add k) = some (.int .i64 (el zs k)) := by
  obtain ⟨ad, e, hb, hc⟩ := h.mem (by omega)
  exact ⟨ad, e, hb, hc k hk⟩
theorem Ints.rngD (h : Ints w A n c zs) (k : Nat) : -9223372036854775808 ≤ el zs k ∧ el zs k ≤ 9223372036854775807 := by
  unfold el
  rw [List.getD_eq_getElem?_getD]
  cases hz : zs[k]? with
  | none => simp
  | some z => exact h.rng z (List.mem_of_getElem? hz)
theorem Ints.below (h : Ints w A n c zs) (hb : Below w.heap.size w w') : Ints w' A n c zs :=
  ⟨h.len, h.cap, h.max, h.few, h.rng, fun hn => by
    obtain ⟨ad, e, hl, hc⟩ := h.mem hn
    exact ⟨ad, e, Nat.lt_of_lt_of_le hl hb.size, fun j hj => (hb.cell (p := ad.add j) (by rw [block_of_add]; exact hl)).trans (hc j hj)⟩, h.nl⟩
theorem Ints.alloc (h : Ints w A n c zs) (o : Obj) : Ints (w.alloc o) A n c zs := h.below ((Below.refl _ _).alloc (Nat.le_refl _) o)
theorem Ints.keep (h : Ints w A n c zs) (hs : w.heap.size ≤ w'.heap.size) (hc : ∀ ad j, A = some ad → j < n → w'.cell? (ad.add j) = w.cell? (ad.add j)) : Ints w' A n c zs :=
  ⟨h.len, h.cap, h.max, h.few, h.rng, fun hn => by
    obtain ⟨ad, e, hl, hm⟩ := h.mem hn
    exact ⟨ad, e, Nat.lt_of_lt_of_le hl hs, fun j hj => (hc ad j e hj).trans (hm j hj)⟩, h.nl⟩
theorem Ints.far (h : Ints w A n c zs) {p : Addr} (hp : ∀ ad, A = some ad → ad.block ≠ p.block) (u : Value) : Ints (w.setCell p u) A n c zs :=
  h.keep (by simp [World.setCell]) fun ad j e _ => World.cell?_setCell_other w p (ad.add j) u (by intro e2; exact hp ad e (by rw [← block_of_add ad j, ← e2]))
theorem Ints.drewN (h : Ints w A n c zs) (k : Nat) : Ints (w.drewN k) A n c zs := ⟨h.len, h.cap, h.max, h.few, h.rng, h.mem, h.nl⟩
/-- Cut from k on. -/
theorem Ints.drop (h : Ints w A n c zs) {k : Nat} (hk : k ≤ n) : Ints w (if c = k then A else A.map (·.add k)) (n - k) (c - k) (zs.drop k) := by
  refine ⟨by rw [List.length_drop, h.len], by have := h.cap; omega, by have := h.max; omega, by have := h.few; omega, fun z hz => h.rng z (List.mem_of_mem_drop hz), fun hn => ?_, fun e => ?_⟩
  rotate_left
  · cases A with
    | none => have := h.nl rfl; omega
    | some ad => split at e <;> cases e
  obtain ⟨ad, rfl, hl, hc⟩ := h.mem (by omega)
  rw [if_neg (by have := h.cap; omega)]
  refine ⟨ad.add k, rfl, by rw [block_of_add]; exact hl, fun j hj => ?_⟩
  rw [add_of_add, hc (k + j) (by omega)]
  simp [el, List.getD_eq_getElem?_getD, List.getElem?_drop]
/-- Cut at k. -/
theorem Ints.take (h : Ints w A n c zs) {k : Nat} (hk : k ≤ n) : Ints w A k c (zs.take k) := by
  refine ⟨by rw [List.length_take, h.len]; omega, by have := h.cap; omega, h.max, by have := h.few; omega, fun z hz => h.rng z (List.mem_of_mem_take hz), fun hn => ?_, h.nl⟩
  obtain ⟨ad, rfl, hl, hc⟩ := h.mem (by omega)
  refine ⟨ad, rfl, hl, fun j hj => ?_⟩
  rw [hc j (by omega), el, el, List.getD_eq_getElem?_getD, List.getD_eq_getElem?_getD, List.getElem?_take, if_pos hj]
theorem take_succ_el (zs : List Int) (k : Nat) (h : k < zs.length) : zs.take (k + 1) = zs.take k ++ [el zs k] := by
  unfold el
  rw [List.take_succ_eq_append_getElem h, List.getD_eq_getElem?_getD, List.getElem?_eq_getElem h]; rfl
theorem el_mem {k : Nat} (h : k < zs.length) : el zs k ∈ zs := by
  unfold el; rw [List.getD_eq_getElem?_getD, List.getElem?_eq_getElem h]; exact List.getElem_mem h
theorem ext_el {ys : List Int} (h : zs.length = ys.length) (he : ∀ k, k < zs.length → el zs k = el ys k) : zs = ys := by
  apply List.ext_getElem h
  intro i h1 h2
  have := he i h1
  unfold el at this
  rwa [List.getD_eq_getElem?_getD, List.getD_eq_getElem?_getD, List.getElem?_eq_getElem h1, List.getElem?_eq_getElem h2] at this
end
theorem ret_b {b b' : Bool} (h : b = b') : Ending.returned (.bool b) = .returned (.bool b') := by rw [h]
theorem ret_i {k : IntKind} {a b : Int} (h : a = b) : Ending.returned (.int k a) = .returned (.int k b) := by rw [h]
theorem below_drewN {B : Nat} {a w : World} (h : Below B a w) (n : Nat) : Below B a (w.drewN n) := ⟨h.os, h.tape, h.output, h.size, h.block⟩
end Go.Proofs.Ytchnfahgmceohaa
