/- The append of a whole list onto a list of the call's own; slices.Clone. -/
import Derived.Test.YtchnfahgmceohaaOwn
import Derived.Laws.AppendOwnNone
import Derived.Lib.AppendZeros
import Derived.WalkSpells
import Derived.Handy
namespace Go.Proofs.Ytchnfahgmceohaa
open Go.RowKit
set_option linter.unusedVariables false

theorem Cells_append (zs ys : List Int) : Cells (zs ++ ys) = Cells zs ++ Cells ys := by simp [Cells]
set_option maxRecDepth 100000 in
theorem wpList_append_ints {ops : Array Oper} {rest : List Oper} {o : Oper} {a : Act} {Q : Exit → Act → World → Prop} (w : World) (B : Nat) (v : Value) (zs : List Int) (A : Option Addr) (m c : Nat) (ys : List Int)
    (hgd : o.guard = none) (s y : Operand) (ho : o.op = .call { callee := .builtin .append, args := #[s, y], argTypes := #[34, 34] })
    (hs : a.eval s = v) (hx : a.eval y = .slice A m c) (hown : Own w B v zs) (hB : B ≤ w.heap.size) (hi : Ints w A m c ys) (hf : zs.length + ys.length ≤ 17592186044416)
    (h : ∀ v' w', Own w' B v' (zs ++ ys) → Below B w w' → wpList Try.prog ops Q rest (a.put o.dst v') w') : wpList Try.prog ops Q (o :: rest) a w := by
  obtain ⟨i0, hi0, hz0, hz1, hz2⟩ := info_parts info_int
  cases A with
  | none =>
    have hc := hi.nl rfl
    have hm : m = 0 := by have := hi.cap; omega
    subst hc hm
    have hy : ys = [] := List.eq_nil_of_length_eq_zero hi.len
    subst hy
    refine wpList_append_own_none hgd s y 34 ho B 3 i0 1 Try.underlying34 hi0 v zs.length (Cells zs) hs hown.row hx (h v w (by rw [List.append_nil]; exact hown) (Below.refl _ _))
  | some ad =>
    refine wpList_append_own w hgd s y 34 ho B 3 i0 (.int .i64 0) 1 8 Try.underlying34 hi0 hz0 hz1 hz2 rfl (by decide) v zs.length (Cells zs) hs hown.row ad m c (Cells ys) hx (by rw [Cells_length, hi.len, Nat.mul_one]) ?_ ?_ ?_ ?_ hB ?_
    · intro j u hj
      have hjl : j < ys.length := by
        have := (List.getElem?_eq_some_iff.1 hj).1
        rwa [Cells_length] at this
      rw [Cells_get ys j hjl] at hj
      injection hj with hj
      subst hj
      obtain ⟨ad', e, _, hc⟩ := hi.mem (by rw [← hi.len]; omega)
      injection e with e
      subst e
      exact hc j (by rw [← hi.len]; exact hjl)
    · intro u hu
      obtain ⟨z, _, rfl⟩ := List.mem_map.1 hu
      rfl
    · have := hi.len; unfold maxLen; omega
    · have := hi.len; omega
    · intro v' w' ho' hg _
      refine h v' w' ⟨?_, ?_, ?_⟩ ?_
      · rw [Cells_append, List.length_append, hi.len]; exact ho'
      · intro z hz
        rcases List.mem_append.1 hz with hz | hz
        · exact hown.rng z hz
        · exact hi.rng z hz
      · rw [List.length_append]; exact hf
      · exact (Below.refl B w).grown hg hB (fun k hk => (hown.row.lt k hk).1)

theorem Own.empty (w : World) (B : Nat) (hB : B ≤ w.heap.size) : Own (w.alloc (.cells #[] 3)) B (.slice (some ⟨w.heap.size, 0, none⟩) 0 0) [] :=
  ⟨World.ownsRow_made w _ 0 hB (by unfold maxLen; omega) rfl, by simp, by simp⟩

set_option maxRecDepth 100000 in
set_option maxHeartbeats 600000 in
theorem Clone_calls {A : Option Addr} {n c : Nat} {zs : List Int} (w : World) (h : Ints w A n c zs) :
    Calls Try.prog 55 #[.slice A n c] w fun e w' => ∃ v, e = .returned v ∧ Own w' w.heap.size v zs ∧ Below w.heap.size w w' := by
  have H := Lib.hid h
  have hfew := h.few
  have HL := Lib.hid h.len
  cases A with
  | none =>
    obtain rfl := h.nl rfl
    obtain rfl : n = 0 := by have := h.cap; omega
    have hz : zs = [] := List.eq_nil_of_length_eq_zero h.len
    subst hz
    have he := fun w => Lib.run_eql_slice_nil (P := Try.prog) w 34 3 none 0 0 0 0 Try.underlying34
    clear h
    go_enter Try.func55, Try.ntmps55
    go_wp2
    go_ret
    exact ⟨_, rfl, Own.nil _ _, Below.refl _ _⟩
  | some ad =>
    have he := fun w => Lib.run_eql_slice_nil (P := Try.prog) w 34 3 (some ad) n c 0 0 Try.underlying34
    clear h
    have HO := Lib.hid (Own.empty w w.heap.size (Nat.le_refl _))
    have HI := Lib.hid (H.out.alloc (.cells #[] 3))
    go_enter Try.func55, Try.ntmps55
    go_wp2_with (at_builtin; refine wpList_append_ints _ w.heap.size _ [] (some ad) n c zs rfl _ _ rfl rfl rfl HO.out (by simp) HI.out (by rw [HL.out]; simp; omega) ?_)
    intro v' w' ho hb
    have R := Lib.hid ho
    have RB := Lib.hid (((Below.refl w.heap.size w).alloc (Nat.le_refl _) (.cells #[] 3)).trans hb)
    clear ho hb
    go_wp2
    go_ret
    exact ⟨_, rfl, R.out, RB.out⟩

end Go.Proofs.Ytchnfahgmceohaa
