/- A block of two integers (a fraction), kept behind calls. -/
import Derived.Test.YtihaabdgligbbaaMake
namespace Go.Proofs.Ytihaabdgligbbaa
open Go.RowKit
set_option linter.unusedVariables false

/-- Block p holds a fraction. -/
structure Pair (w : World) (p : Nat) (a b : Int) : Prop where
  c0 : w.cell? ⟨p, 0, none⟩ = some (.int .i64 a)
  c1 : w.cell? ⟨p, 1, none⟩ = some (.int .i64 b)
  lt : p < w.heap.size
theorem Pair.made (w : World) (a b : Int) : Pair (w.alloc (.cells #[.int .i64 a, .int .i64 b] 27)) w.heap.size a b := ⟨by go_simp, by go_simp, by simp⟩
theorem Pair.below {w w' : World} {p : Nat} {a b : Int} (h : Pair w p a b) (hb : Below w.heap.size w w') : Pair w' p a b :=
  ⟨(hb.cell (p := ⟨p, 0, none⟩) h.lt).trans h.c0, (hb.cell (p := ⟨p, 1, none⟩) h.lt).trans h.c1, Nat.lt_of_lt_of_le h.lt hb.size⟩
theorem Pair.alloc {w : World} {p : Nat} {a b : Int} (h : Pair w p a b) (o : Obj) : Pair (w.alloc o) p a b := h.below ((Below.refl _ _).alloc (Nat.le_refl _) o)
theorem bel_alloc {B : Nat} {a b c : World} {o : Obj} (h : Below B a b) (k : Below (b.alloc o).heap.size (b.alloc o) c) (hs : B ≤ b.heap.size) : Below B a c := below_then (h.alloc hs o) k (by simp; omega)
end Go.Proofs.Ytihaabdgligbbaa
