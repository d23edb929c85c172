/- A slice of rows of integers that the call itself makes and appends to. -/
import Derived.Test.YtihaabdgligbbaaOwn
import Derived.Test.YtihaabdgligbbaaTab
import Derived.Maps.AppendAt
namespace Go.Proofs.Ytihaabdgligbbaa
open Go.RowKit
set_option linter.unusedVariables false

theorem info_row : (Try.prog.info? 23).map (fun i => (i.zero, i.size, i.bytes)) = some (some (.slice none 0 0), 1, 24) := by kernel_rfl
theorem tl_append_lt {ts : List (List Int)} {zs : List Int} {j : Nat} (h : j < ts.length) : tl (ts ++ [zs]) j = tl ts j := by
  unfold tl; rw [List.getD_eq_getElem?_getD, List.getD_eq_getElem?_getD, List.getElem?_append_left h]
theorem tl_append_eq {ts : List (List Int)} {zs : List Int} : tl (ts ++ [zs]) ts.length = zs := by
  unfold tl; rw [List.getD_eq_getElem?_getD, List.getElem?_append_right (Nat.le_refl _)]; simp
theorem grown_of_below {w w' : World} (h : Below w.heap.size w w') (row : Option Nat) : w.grownBy w' row := ⟨h.os, h.tape, h.output, h.size, fun k hk _ => h.block k hk⟩
theorem Own.below {w w' : World} {B : Nat} {v : Value} {zs : List Int} (h : Own w B v zs) (hb : Below w.heap.size w w') : Own w' B v zs := by
  refine ⟨h.row.kept (row := none) (grown_of_below hb none) ?_, h.rng, h.few⟩
  rcases hv : v.ownBlock with _ | k
  · exact .inl rfl
  · exact .inr (by simp)

/-- The slice value v is the call's own (from block B on), and reads as the rows ts; their blocks are others. -/
structure OwnT (w : World) (B : Nat) (v : Value) (ts : List (List Int)) : Prop where
  row : ∃ cs, w.ownsRow B 23 1 v ts.length cs ∧ cs.length = ts.length ∧ ∀ j, j < ts.length → ∃ A n c, cs[j]? = some (.slice A n c) ∧ Ints w A n c (tl ts j) ∧ (0 < n → ∀ ad, A = some ad → v.ownBlock ≠ some ad.block)
  few : ts.length ≤ 1000
theorem OwnT.nil (w : World) (B : Nat) : OwnT w B (.slice none 0 0) [] := ⟨⟨[], World.ownsRow_nil _ _ _ _, rfl, fun j hj => absurd hj (by simp)⟩, by simp⟩
theorem OwnT.below {w w' : World} {B : Nat} {v : Value} {ts : List (List Int)} (h : OwnT w B v ts) (hb : Below w.heap.size w w') : OwnT w' B v ts := by
  obtain ⟨cs, h1, h2, h3⟩ := h.row
  refine ⟨⟨cs, h1.kept (row := none) (grown_of_below hb none) ?_, h2, fun j hj => ?_⟩, h.few⟩
  · rcases hv : v.ownBlock with _ | k
    · exact .inl rfl
    · exact .inr (by simp)
  · obtain ⟨A, n, c, e, hi, hA⟩ := h3 j hj
    exact ⟨A, n, c, e, hi.below hb, hA⟩
theorem OwnT.lt {w : World} {B : Nat} {v : Value} {ts : List (List Int)} (h : OwnT w B v ts) {k : Nat} (hk : v.ownBlock = some k) : B ≤ k ∧ k < w.heap.size := by
  obtain ⟨cs, h1, _⟩ := h.row
  exact h1.lt k hk
theorem OwnT.fresh {w : World} {B : Nat} {v : Value} {ts : List (List Int)} (h : OwnT w B v ts) {A : Option Addr} {n : Nat} (hA : ∀ ad, A = some ad → w.heap.size ≤ ad.block) : 0 < n → ∀ ad, A = some ad → v.ownBlock ≠ some ad.block := fun _ ad e hv => by
  have := (h.lt hv).2
  have := hA ad e
  omega
/-- make([][]int, 0, n): nothing yet, with room. -/
theorem make_rows (n : Nat) (h : n ≤ 1000) (w : World) : (Instr.makeSlice 22 (.int .i64 0) (.int .i64 (n : Int))).run Try.prog w = .ok (.slice (some ⟨w.heap.size, 0, none⟩) 0 n) (w.alloc (.cells (madeCells #[.slice none 0 0] n) 23)) := by
  obtain ⟨i0, hi, hz0, hz1, hz2⟩ := info_parts info_row
  have hr := run_make (P := Try.prog) w 22 23 i0 (.slice none 0 0) Try.underlying22 hi hz0 .i64 .i64 0 n (by omega) (by omega) (by rw [hz2]; omega) (by omega)
  simp only [Int.toNat_natCast, hz1, Nat.mul_one] at hr
  exact hr
theorem OwnT.room (w : World) (B n : Nat) (hB : B ≤ w.heap.size) (h : n ≤ 1000) : OwnT (w.alloc (.cells (madeCells #[.slice none 0 0] n) 23)) B (.slice (some ⟨w.heap.size, 0, none⟩) 0 n) [] :=
  ⟨⟨[], World.ownsRow_made w _ n hB (by unfold maxLen; omega) (by rw [size_madeCells, Nat.mul_one]), rfl, fun j hj => absurd hj (by simp)⟩, by simp⟩
theorem OwnT.tab {w : World} {B : Nat} {v : Value} {ts : List (List Int)} (h : OwnT w B v ts) : ∃ A n c, v = .slice A n c ∧ Tab w A n c ts ∧ ∀ ad, A = some ad → B ≤ ad.block := by
  obtain ⟨cs, h1, h2, h3⟩ := h.row
  have hf := h.few
  rcases h1.2 with ⟨rfl, hn⟩ | ⟨g, cap, cur, rfl, hb, hg, hnc, hm, hsz, htk⟩
  · have : ts = [] := List.eq_nil_of_length_eq_zero hn
    subst this
    exact ⟨none, 0, 0, rfl, Tab.nil w, fun ad e => by cases e⟩
  · refine ⟨some ⟨g, 0, none⟩, ts.length, cap, rfl, ⟨rfl, hnc, hm, by omega, fun hn => ⟨_, rfl, (h1.lt g rfl).2, fun j hj => ?_⟩, fun e => by cases e⟩, fun ad e => by injection e with e; subst e; exact hb⟩
    obtain ⟨A, n, c, e, hi, _⟩ := h3 j hj
    exact ⟨A, n, c, h1.cells rfl j _ e, hi⟩

theorem wpList_append_row {ops : Array Oper} {rest : List Oper} {o : Oper} {a : Act} {Q : Exit → Act → World → Prop} (w : World) (B : Nat) (v : Value) (ts : List (List Int)) (A : Option Addr) (n c : Nat) (zs : List Int)
    (hgd : o.guard = none) (s y : Operand) (ho : o.op = .call { callee := .builtin .append, args := #[s, y], argTypes := #[22, 22] })
    (hs : a.eval s = v) (hx : a.eval y = .slice (some ⟨w.heap.size, 0, none⟩) 1 1) (hown : OwnT w B v ts) (hi : Ints w A n c zs) (hA : 0 < n → ∀ ad, A = some ad → v.ownBlock ≠ some ad.block) (hB : B ≤ w.heap.size) (hf : ts.length < 1000)
    (h : ∀ v' w', OwnT w' B v' (ts ++ [zs]) → Below B w w' → wpList Try.prog ops Q rest (a.put o.dst v') w') : wpList Try.prog ops Q (o :: rest) a (w.alloc (.cells #[.slice A n c] 23)) := by
  obtain ⟨i0, hi0, hz0, hz1, hz2⟩ := info_parts info_row
  obtain ⟨cs, h1, h2, h3⟩ := hown.row
  refine wpList_append_own_at _ hgd s y 22 ho B 23 i0 (.slice none 0 0) 1 24 Try.underlying22 hi0 hz0 hz1 hz2 rfl (by decide) v ts.length cs hs (h1.alloc _) ⟨w.heap.size, 0, none⟩ 1 1 [.slice A n c] hx rfl ?_ ?_ ?_ ?_ ?_ ?_
  · intro j u hj
    match j, hj with
    | 0, hj => simp at hj; subst hj; simp [Addr.add]
  · intro u hu; simp at hu; subst hu; rfl
  · unfold maxLen; omega
  · omega
  · simp; omega
  · intro v' w' ho' hg _ hat
    have hbel : Below B w w' := ((Below.refl B w).alloc hB _).grown hg (by simp; omega) (fun k hk => ((h1.alloc (.cells #[.slice A n c] 23)).lt k hk).1)
    have keep : ∀ (A' : Option Addr) (n' c' : Nat) (z : List Int), Ints w A' n' c' z → (0 < n' → ∀ ad, A' = some ad → v.ownBlock ≠ some ad.block) → Ints w' A' n' c' z ∧ (0 < n' → ∀ ad, A' = some ad → v'.ownBlock ≠ some ad.block) := by
      intro A' n' c' z hz hne
      by_cases hn0 : 0 < n'
      · obtain ⟨ad, e, hlt, hc⟩ := hz.mem hn0
        subst e
        refine ⟨hz.keep (by have := hg.size; simp at this; omega) fun ad' j e hj => ?_, fun _ ad' e hv => ?_⟩
        · obtain rfl := Option.some.inj e
          have hbk := hg.block ad.block (by simp; omega) (fun e => hne hn0 ad rfl e.symm)
          have : (w.alloc (.cells #[.slice A n c] 23)).cell? (ad.add j) = w.cell? (ad.add j) := World.cell?_alloc_lt _ _ _ (by rw [block_of_add]; exact hlt)
          rw [← this]
          exact World.cell?_of_block (by rw [block_of_add]; exact hbk)
        · obtain rfl := Option.some.inj e
          rcases hat with e | e
          · exact hne hn0 ad rfl (by rw [← e]; exact hv)
          · rw [e] at hv
            injection hv with hv
            simp at hv
            omega
      · have h0 : n' = 0 := by omega
        subst h0
        exact ⟨⟨hz.len, hz.cap, hz.max, hz.few, hz.rng, fun h => absurd h (by omega), hz.nl⟩, fun h => absurd h (by omega)⟩
    have hl : (ts ++ [zs]).length = ts.length + 1 := by simp
    refine h v' w' ⟨⟨cs ++ [.slice A n c], by rw [hl]; exact ho', by simp [h2], fun j hj => ?_⟩, by rw [hl]; omega⟩ hbel
    rw [hl] at hj
    by_cases hjl : j < ts.length
    · obtain ⟨A', n', c', e, hi', hA'⟩ := h3 j hjl
      obtain ⟨k1, k2⟩ := keep A' n' c' _ hi' hA'
      exact ⟨A', n', c', by rw [List.getElem?_append_left (by omega)]; exact e, by rw [tl_append_lt hjl]; exact k1, k2⟩
    · obtain rfl : j = ts.length := by omega
      obtain ⟨k1, k2⟩ := keep A n c zs hi hA
      exact ⟨A, n, c, by rw [List.getElem?_append_right (by omega), h2]; simp, by rw [tl_append_eq]; exact k1, k2⟩
end Go.Proofs.Ytihaabdgligbbaa
