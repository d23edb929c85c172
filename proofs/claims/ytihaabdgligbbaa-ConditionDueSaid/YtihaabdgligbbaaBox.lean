/- A block of one cell (a captured variable), kept behind calls. -/
import Derived.Test.YtihaabdgligbbaaOwn
namespace Go.Proofs.Ytihaabdgligbbaa
open Go.RowKit
set_option linter.unusedVariables false

/-- Block p holds the value v. -/
structure Box (w : World) (p : Nat) (v : Value) : Prop where
  c : w.cell? ⟨p, 0, none⟩ = some v
  lt : p < w.heap.size
theorem Box.made (w : World) (v : Value) (t : TypeId) : Box (w.alloc (.cells #[v] t)) w.heap.size v := ⟨by rw [World.cell?_alloc_new]; rfl, by simp⟩
theorem Box.below {w w' : World} {p : Nat} {v : Value} (h : Box w p v) (hb : Below w.heap.size w w') : Box w' p v :=
  ⟨(hb.cell (p := ⟨p, 0, none⟩) h.lt).trans h.c, Nat.lt_of_lt_of_le h.lt hb.size⟩
theorem Box.alloc {w : World} {p : Nat} {v : Value} (h : Box w p v) (o : Obj) : Box (w.alloc o) p v := h.below ((Below.refl _ _).alloc (Nat.le_refl _) o)
theorem Box.drewN {w : World} {p : Nat} {v : Value} (h : Box w p v) (k : Nat) : Box (w.drewN k) p v := ⟨h.c, h.lt⟩
end Go.Proofs.Ytihaabdgligbbaa
