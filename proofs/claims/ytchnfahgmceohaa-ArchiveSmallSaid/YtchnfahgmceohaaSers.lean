/- Slices of records that read as lists. -/
import Derived.Test.YtchnfahgmceohaaSer
namespace Go.Proofs.Ytchnfahgmceohaa
open Go.RowKit
set_option linter.unusedVariables false

/-- A record: its beginning, its step, its depths. -/
structure SerD where
  f : Int
  st : Int
  ds : List Int
/-- The element k of a list of records. -/
def sl (ss : List SerD) (k : Nat) : SerD := ss.getD k ⟨0, 0, []⟩
theorem sl_mem {ss : List SerD} {k : Nat} (h : k < ss.length) : sl ss k ∈ ss := by
  unfold sl; rw [List.getD_eq_getElem?_getD, List.getElem?_eq_getElem h]; exact List.getElem_mem h
theorem sl_of_mem {ss : List SerD} {l : SerD} (h : l ∈ ss) : ∃ k, k < ss.length ∧ sl ss k = l := by
  obtain ⟨k, hk, rfl⟩ := List.getElem_of_mem h
  exact ⟨k, hk, by unfold sl; rw [List.getD_eq_getElem?_getD, List.getElem?_eq_getElem hk]; rfl⟩
theorem sl_take {ss : List SerD} {k : Nat} (h : k < ss.length) : ss.take (k + 1) = ss.take k ++ [sl ss k] := by
  rw [List.take_succ_eq_append_getElem h]
  congr 2
  unfold sl; rw [List.getD_eq_getElem?_getD, List.getElem?_eq_getElem h]; rfl
/-- At the address q a record lies. -/
structure SerAt (w : World) (q : Addr) (s : SerD) : Prop where
  c : ∃ A n c, w.cell? q = some (.int .i64 s.f) ∧ w.cell? ⟨q.block, q.off + 1, none⟩ = some (.int .i64 s.st) ∧ w.cell? ⟨q.block, q.off + 2, none⟩ = some (.slice A n c) ∧ Ints w A n c s.ds
theorem SerAt.below {w w' : World} {q : Addr} {s : SerD} (h : SerAt w q s) (hl : q.block < w.heap.size) (hb : Below w.heap.size w w') : SerAt w' q s := by
  obtain ⟨A, n, c, h0, h1, h2, h3⟩ := h.c
  exact ⟨A, n, c, (hb.cell (p := q) hl).trans h0, (hb.cell (p := ⟨q.block, q.off + 1, none⟩) hl).trans h1, (hb.cell (p := ⟨q.block, q.off + 2, none⟩) hl).trans h2, h3.below hb⟩
/-- The slice with base A, length n, capacity c reads as the records ss. -/
structure Sers (w : World) (A : Option Addr) (n c : Nat) (ss : List SerD) : Prop where
  len : ss.length = n
  cap : n ≤ c
  max : c ≤ 9223372036854775807
  few : n ≤ 17592186044416
  mem : 0 < n → ∃ ad, A = some ad ∧ ad.block < w.heap.size ∧ ∀ j, j < n → SerAt w (ad.add (j * 3)) (sl ss j)
  nl : A = none → c = 0
section
variable {w w' : World} {A : Option Addr} {n c : Nat} {ss : List SerD}
theorem Sers.nil (w : World) : Sers w none 0 0 [] := ⟨rfl, Nat.le_refl _, by omega, by omega, fun h => absurd h (by omega), fun _ => rfl⟩
theorem Sers.at_ (h : Sers w A n c ss) {k : Nat} (hk : k < n) : ∃ ad, A = some ad ∧ ad.block < w.heap.size ∧ SerAt w (ad.add (k * 3)) (sl ss k) := by
  obtain ⟨ad, e, hb, hc⟩ := h.mem (by omega)
  exact ⟨ad, e, hb, hc k hk⟩
theorem Sers.below (h : Sers w A n c ss) (hb : Below w.heap.size w w') : Sers w' A n c ss :=
  ⟨h.len, h.cap, h.max, h.few, fun hn => by
    obtain ⟨ad, e, hl, hc⟩ := h.mem hn
    exact ⟨ad, e, Nat.lt_of_lt_of_le hl hb.size, fun j hj => (hc j hj).below (by rw [block_of_add]; exact hl) hb⟩, h.nl⟩
theorem Sers.alloc (h : Sers w A n c ss) (o : Obj) : Sers (w.alloc o) A n c ss := h.below ((Below.refl _ _).alloc (Nat.le_refl _) o)
theorem Sers.drewN (h : Sers w A n c ss) (k : Nat) : Sers (w.drewN k) A n c ss := h.below (below_drewN (Below.refl _ _) k)
end
end Go.Proofs.Ytchnfahgmceohaa
