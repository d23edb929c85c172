/- At a step of a region that draws its order: integers appended to own integers; only the own block is written. -/
import Derived.Test.YtfhikdgdckfalaaMB08
import Derived.Test.YtfhikdgdckfalaaMB13
import Derived.Test.YtfhikdgdckfalaaMB18
import Derived.Deep.RegionHeld3
import Derived.Deep.AppendLies
namespace Go.Proofs.Ytfhikdgdckfalaa
open Go.RowKit
set_option linter.unusedVariables false

theorem GroI.refl (w : World) (v : Value) : GroI w w v v := ⟨⟨rfl, rfl, rfl, Nat.le_refl _, fun _ _ _ => rfl⟩, .inl rfl⟩
theorem GroI.zbox {w w' : World} {v v' : Value} (h : GroI w w' v v') {g : Nat} (z : ZBox w g) (hv : v.ownBlock ≠ some g) : ZBox w' g := by
  have hb : w'.heap[g]? = w.heap[g]? := h.g.block g z.b.lt (fun e => hv e.symm)
  exact ⟨⟨(World.cell?_of_block (a := ⟨g, 0, none⟩) hb).trans z.b.c0, (World.cell?_of_block (a := ⟨g, 1, none⟩) hb).trans z.b.c1, (World.cell?_of_block (a := ⟨g, 2, none⟩) hb).trans z.b.c2, Nat.lt_of_lt_of_le z.b.lt h.g.size⟩, fun i => (World.frozen?_of_block (a := ⟨g, i, none⟩) hb).trans (z.f i)⟩
set_option maxRecDepth 100000 in
theorem step_append_intsG {ops : Array Oper} {o : Oper} {a : Act} {K : Act → World → Prop} {Q : Exit → Act → World → Prop} {E : Prop} (w : World) (B : Nat) (v : Value) (zs : List Int) (A : Option Addr) (m c : Nat) (ys : List Int)
    (hgd : o.guard = none) (s y : Operand) (ho : o.op = .call { callee := .builtin .append, args := #[s, y], argTypes := #[23, 23] })
    (hs : a.eval s = v) (hx : a.eval y = .slice A m c) (hown : Own w B v zs) (hB : B ≤ w.heap.size) (hi : Ints w A m c ys) (hf : zs.length + ys.length ≤ 17592186044416)
    (h : ∀ v' w', Own w' B v' (zs ++ ys) → GroI w w' v v' → K (a.put o.dst v') w') :
    if Region.wanted o (yielded ops a.tmps) = true then Oper.wp Try.prog o a w K Q else E := by
  obtain ⟨i0, hi0, hz0, hz1, hz2⟩ := info_parts info_int
  have hw : Region.wanted o (yielded ops a.tmps) = true := by simp [Region.wanted, hgd]
  rw [if_pos hw]
  cases A with
  | none =>
    have hc := hi.nl rfl
    have hm : m = 0 := by have := hi.cap; omega
    subst hc hm
    have hy : ys = [] := List.eq_nil_of_length_eq_zero hi.len
    subst hy
    have hrun := run_append_owned_none (P := Try.prog) (w := w) B 23 o.type 3 i0 1 Try.underlying23 hi0 v zs.length (Cells zs) hown.row
    unfold Oper.wp
    simp [execOp, ho, resolve, invoke, builtin, hs, hx, hrun, Result.andThen]
    exact h v w (by rw [List.append_nil]; exact hown) (GroI.refl _ _)
  | some ad =>
    obtain ⟨v', w', hr, h2, h3, h4, h5⟩ := run_append_own_at (P := Try.prog) w B 23 o.type 3 i0 (.int .i64 0) 1 8 Try.underlying23 hi0 hz0 hz1 hz2 rfl (by decide) v zs.length (Cells zs) hown.row ad m c (Cells ys) (by rw [Cells_length, hi.len, Nat.mul_one]) (by
        intro j u hj
        have hjl : j < ys.length := by
          have := (List.getElem?_eq_some_iff.1 hj).1
          rwa [Cells_length] at this
        rw [Cells_get ys j hjl] at hj
        injection hj with hj
        subst hj
        obtain ⟨ad', e, _, hc⟩ := hi.mem (by rw [← hi.len]; omega)
        injection e with e
        subst e
        exact hc j (by rw [← hi.len]; exact hjl)) (by
        intro u hu
        obtain ⟨z, _, rfl⟩ := List.mem_map.1 hu
        rfl) (by have := hi.len; unfold maxLen; omega) (by have := hi.len; omega) hB
    unfold Oper.wp execOp
    simp only [ho, resolve, invoke, builtin, Sem.run_bind, Sem.run_pure, Result.andThen_ok, List.map_toArray, List.map_cons, List.map_nil, hs, hx, hr]
    refine h v' w' ⟨?_, ?_, ?_⟩ ⟨h3, h5.imp id fun e => ⟨_, e, Nat.le_refl _⟩⟩
    · rw [Cells_append, List.length_append, hi.len]; exact h2
    · intro z hz
      rcases List.mem_append.1 hz with hz | hz
      · exact hown.rng z hz
      · exact hi.rng z hz
    · rw [List.length_append]; exact hf
end Go.Proofs.Ytfhikdgdckfalaa
