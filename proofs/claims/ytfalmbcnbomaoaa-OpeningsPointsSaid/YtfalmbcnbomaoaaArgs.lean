/- a link, a span by value: their fields as the walk has them -/
import Derived.Deep.Slices
import Derived.Deep.Fields
import Derived.ChangeSame
import Derived.Lib.SmallJoins
import Derived.Test.YtfalmbcnbomaoaaProg
import Derived.KernelRfl
namespace Go.Proofs.Ytfalmbcnbomaoaa
open Go.ChangeShapes Go.Deep Go.RowKit Go.WideShapes
set_option linter.unusedVariables false

section
variable {H : Type} {enc : TypeId × Value → H} {P : Program} {w : World} {base : Nat} {spare : Nat → Bool} {held : Bool}
/-- A struct by value whose fields have one cell each: its cells, and that each field reads. -/
theorem open_cells {r : Reach} {b0 : Nat} {t : TypeId} {fs : Array Field} {v : Value} {d : DataW H} {p : List MemPlace} (hs : P.underlying t = some (.struct fs)) (hone : oneCellFields P fs = true) (hC : P.cellsOf t = fs.size)
    (hv : Value.okWide P w r b0 t v) (h : DataW.Trod enc P w base spare held t v d p) :
    ∃ (cs : List Value) (n : Nat), v = .agg cs.toArray ∧ cs.length = fs.size ∧ ∀ (j : Nat) (f : Field), fs[j]? = some f → ∃ (c : Value) (y : DataW H × List MemPlace), cs[j]? = some c ∧ DataW.trod enc P w base spare held n f.type [c] = some y := by
  obtain ⟨cs, rfl, hsz⟩ := okWide_struct hs hv
  obtain ⟨l⟩ := cs
  obtain ⟨fuel, hf⟩ := h
  obtain ⟨xs, n, _, _, _, hlen, hg⟩ := DataW.trod_struct hs hf
  have hl : l.length = fs.size := by simpa [hC] using hsz
  refine ⟨l, n, rfl, hl, fun j f hj => ?_⟩
  obtain ⟨o, k⟩ := hone_of hone j f hj
  have hjl : j < l.length := by rw [hl]; exact (Array.getElem?_eq_some_iff.1 hj).1
  have h1 := hg j f hj
  rw [o, k] at h1
  have e : ((Value.agg l.toArray).cells.toList.drop j).take 1 = [l[j]] := by
    show (l.drop j).take 1 = _
    rw [List.drop_eq_getElem_cons hjl]
    rfl
  have hxs : j < xs.length := by rw [hlen]; exact (Array.getElem?_eq_some_iff.1 hj).1
  refine ⟨l[j], xs[j], List.getElem?_eq_getElem hjl, ?_⟩
  have h2 : DataW.trod enc P w base spare held n f.type [l[j]] = xs[j]? := by rw [← e]; exact h1
  rw [h2]
  exact List.getElem?_eq_getElem hxs
end
theorem list11 {α : Type} {l : List α} (h : l.length = 11) : ∃ a b c d e f g i j k m, l = [a, b, c, d, e, f, g, i, j, k, m] := by
  match l, h with
  | [a, b, c, d, e, f, g, i, j, k, m], _ => exact ⟨a, b, c, d, e, f, g, i, j, k, m, rfl⟩
theorem list2 {α : Type} {l : List α} (h : l.length = 2) : ∃ a b, l = [a, b] := by
  match l, h with
  | [a, b], _ => exact ⟨a, b, rfl⟩

section
variable {H : Type} {enc : TypeId × Value → H} {w : World} {base : Nat} {spare : Nat → Bool} {held : Bool}
/-- A link by value: its fields as the walk has them. -/
theorem open_link {r : Reach} {b0 : Nat} {v : Value} {d : DataW H} {p : List MemPlace} (hv : Value.okWide Try.prog w r b0 32 v) (h : DataW.Trod enc Try.prog w base spare held 32 v d p) :
    ∃ (n0 n1 n2 sc : ByteArray) (kd ln up dn wd ht : Int) (ca : Option Addr) (cn cc : Nat), v = .agg #[.string n0, .string n1, .string n2, .int .i64 kd, .int .i64 ln, .int .i64 up, .int .i64 dn, .string sc, .int .i64 wd, .int .i64 ht, .slice ca cn cc] := by
  obtain ⟨cs, n, rfl, hl, hf⟩ := open_cells Try.underlying32 (by kernel_rfl) (by kernel_rfl) hv h
  obtain ⟨c0, c1, c2, c3, c4, c5, c6, c7, c8, c9, c10, rfl⟩ := list11 (l := cs) hl
  obtain ⟨_, y0, e0, t0⟩ := hf 0 _ rfl
  obtain ⟨_, y1, e1, t1⟩ := hf 1 _ rfl
  obtain ⟨_, y2, e2, t2⟩ := hf 2 _ rfl
  obtain ⟨_, y3, e3, t3⟩ := hf 3 _ rfl
  obtain ⟨_, y4, e4, t4⟩ := hf 4 _ rfl
  obtain ⟨_, y5, e5, t5⟩ := hf 5 _ rfl
  obtain ⟨_, y6, e6, t6⟩ := hf 6 _ rfl
  obtain ⟨_, y7, e7, t7⟩ := hf 7 _ rfl
  obtain ⟨_, y8, e8, t8⟩ := hf 8 _ rfl
  obtain ⟨_, y9, e9, t9⟩ := hf 9 _ rfl
  obtain ⟨_, y10, e10, t10⟩ := hf 10 _ rfl
  obtain ⟨s0, r0, _⟩ := DataW.trod_string Try.underlying9 t0
  obtain ⟨s1, r1, _⟩ := DataW.trod_string Try.underlying9 t1
  obtain ⟨s2, r2, _⟩ := DataW.trod_string Try.underlying9 t2
  obtain ⟨s3, r3, _⟩ := DataW.trod_int Try.underlying3 t3
  obtain ⟨s4, r4, _⟩ := DataW.trod_int Try.underlying3 t4
  obtain ⟨s5, r5, _⟩ := DataW.trod_int Try.underlying3 t5
  obtain ⟨s6, r6, _⟩ := DataW.trod_int Try.underlying3 t6
  obtain ⟨s7, r7, _⟩ := DataW.trod_string Try.underlying9 t7
  obtain ⟨s8, r8, _⟩ := DataW.trod_int Try.underlying3 t8
  obtain ⟨s9, r9, _⟩ := DataW.trod_int Try.underlying3 t9
  obtain ⟨sa, sl, sq, r10⟩ := Joins.slice_form Try.underlying30 t10
  simp at e0 e1 e2 e3 e4 e5 e6 e7 e8 e9 e10 r0 r1 r2 r3 r4 r5 r6 r7 r8 r9 r10
  subst e0 e1 e2 e3 e4 e5 e6 e7 e8 e9 e10
  subst r0 r1 r2 r3 r4 r5 r6 r7 r8 r9 r10
  exact ⟨s0, s1, s2, s7, s3, s4, s5, s6, s8, s9, sa, sl, sq, rfl⟩
theorem open_span {r : Reach} {b0 : Nat} {v : Value} {d : DataW H} {p : List MemPlace} (hv : Value.okWide Try.prog w r b0 46 v) (h : DataW.Trod enc Try.prog w base spare held 46 v d p) :
    ∃ (lo hi : Int), v = .agg #[.int .i64 lo, .int .i64 hi] ∧ (Lit.int .i64 lo).wf = true ∧ (Lit.int .i64 hi).wf = true := by
  obtain ⟨cs, n, rfl, hl, hf⟩ := open_cells Try.underlying46 (by kernel_rfl) (by kernel_rfl) hv h
  obtain ⟨c0, c1, rfl⟩ := list2 (l := cs) hl
  obtain ⟨_, y0, e0, t0⟩ := hf 0 _ rfl
  obtain ⟨_, y1, e1, t1⟩ := hf 1 _ rfl
  obtain ⟨s0, r0, _, w0⟩ := DataW.trod_int Try.underlying3 t0
  obtain ⟨s1, r1, _, w1⟩ := DataW.trod_int Try.underlying3 t1
  simp at e0 e1 r0 r1
  subst e0 e1
  subst r0 r1
  exact ⟨s0, s1, rfl, w0, w1⟩
end
end Go.Proofs.Ytfalmbcnbomaoaa
