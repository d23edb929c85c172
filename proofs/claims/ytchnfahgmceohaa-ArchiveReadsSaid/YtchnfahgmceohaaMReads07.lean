/- The bytes of a record, of an archive. No program in sight. -/
import Derived.Test.YtchnfahgmceohaaMReads02
import Derived.Test.YtchnfahgmceohaaMReads04
import Derived.Test.YtchnfahgmceohaaMReads06
import Derived.Test.YtchnfahgmceohaaMReads00

namespace Go.Proofs.Ytchnfahgmceohaa
open Go.RowKit
set_option linter.unusedVariables false

def payL (f st : Int) (ds : List Int) : List Int := putL (foldN f) ++ putL st.toNat ++ putL ds.length ++ packL ds
def be4 (n : Int) : List Int := [n / 16777216 % 256, n / 65536 % 256, n / 256 % 256, n % 256]
def recL (f st : Int) (ds : List Int) : List Int := putL (payL f st ds).length ++ payL f st ds ++ be4 (sumB (payL f st ds))
theorem payL_len (f st : Int) (ds : List Int) : 3 ≤ (payL f st ds).length ∧ (payL f st ds).length ≤ 40 + 20 * ds.length := by
  unfold payL packL
  have h1 := putL_len (foldN f)
  have h2 := putL_len st.toNat
  have h3 := putL_len ds.length
  have h4 := packGo_len ds 0 0
  simp only [List.length_append]
  omega
theorem recL_len (f st : Int) (ds : List Int) : 8 ≤ (recL f st ds).length ∧ (recL f st ds).length ≤ 54 + 20 * ds.length := by
  unfold recL
  have h1 := putL_len (payL f st ds).length
  have h2 := payL_len f st ds
  have h3 : (be4 (sumB (payL f st ds))).length = 4 := rfl
  simp only [List.length_append]
  omega
theorem sumB_bd (bs : List Int) : 0 ≤ sumB bs ∧ sumB bs < 4294967296 := sumTo_bd bs _
theorem inP_dep {ds : List Int} (h : ∀ z ∈ ds, -1 ≤ z ∧ z ≤ 4194304) : inP ds := fun z hz => by have := h z hz; omega
end Go.Proofs.Ytchnfahgmceohaa

/- A block of one cell that may be written (a captured variable). -/
namespace Go.Proofs.Ytchnfahgmceohaa
open Go.RowKit
set_option linter.unusedVariables false

/-- Block p holds the value v and may be written. -/
structure Cel (w : World) (p : Nat) (v : Value) : Prop where
  c : w.cell? ⟨p, 0, none⟩ = some v
  f : w.frozen? ⟨p, 0, none⟩ = false
  lt : p < w.heap.size
theorem Cel.made (w : World) (v : Value) (t : TypeId) : Cel (w.alloc (.cells #[v] t)) w.heap.size v := ⟨by rw [World.cell?_alloc_new]; rfl, by simp, by simp⟩
theorem Cel.below {w w' : World} {p : Nat} {v : Value} (h : Cel w p v) {B : Nat} (hb : Below B w w') (hp : p < B) : Cel w' p v :=
  ⟨(hb.cell (p := ⟨p, 0, none⟩) hp).trans h.c, (hb.frozen (p := ⟨p, 0, none⟩) hp).trans h.f, Nat.lt_of_lt_of_le h.lt hb.size⟩
theorem Cel.alloc {w : World} {p : Nat} {v : Value} (h : Cel w p v) (o : Obj) : Cel (w.alloc o) p v := h.below ((Below.refl w.heap.size _).alloc (Nat.le_refl _) o) h.lt
theorem Cel.far {w : World} {p : Nat} {v : Value} (h : Cel w p v) {q : Addr} (hq : q.block ≠ p) (u : Value) : Cel (w.setCell q u) p v :=
  ⟨by rw [World.cell?_setCell_other w _ _ _ (by intro e; exact hq (by rw [e]))]; exact h.c, by rw [World.frozen?_setCell]; exact h.f, by simp [World.setCell]; exact h.lt⟩
theorem Cel.set {w : World} {p : Nat} {n : Int} {k : IntKind} (h : Cel w p (.int k n)) (m : Int) : Cel (w.setCell ⟨p, 0, none⟩ (.int k m)) p (.int k m) :=
  ⟨World.cell?_setCell_same w _ _ h.c, by rw [World.frozen?_setCell]; exact h.f, by simp [World.setCell]; exact h.lt⟩
theorem Cel.set_slice {w : World} {p : Nat} {A A' : Option Addr} {n c n' c' : Nat} (h : Cel w p (.slice A n c)) : Cel (w.setCell ⟨p, 0, none⟩ (.slice A' n' c')) p (.slice A' n' c') :=
  ⟨World.cell?_setCell_same w _ _ h.c, by rw [World.frozen?_setCell]; exact h.f, by simp [World.setCell]; exact h.lt⟩
theorem Cel.drewN {w : World} {p : Nat} {v : Value} (h : Cel w p v) (k : Nat) : Cel (w.drewN k) p v := ⟨h.c, h.f, h.lt⟩
end Go.Proofs.Ytchnfahgmceohaa
