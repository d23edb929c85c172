/- Appends that touch the slice's own block alone, or make a new one. -/
import Derived.Test.YtchnfahgmceohaaOwnB
import Derived.Maps.AppendAt
namespace Go.Proofs.Ytchnfahgmceohaa
open Go.RowKit
set_option linter.unusedVariables false

/-- From w to w' only v's own block was written; v' lies there or in a new block. -/
structure Gro (w w' : World) (v v' : Value) : Prop where
  g : w.grownBy w' v.ownBlock
  o : v'.ownBlock = v.ownBlock ∨ ∃ k, v'.ownBlock = some k ∧ w.heap.size ≤ k
theorem Gro.refl (w : World) (v : Value) : Gro w w v v := ⟨⟨rfl, rfl, rfl, Nat.le_refl _, fun _ _ _ => rfl⟩, .inl rfl⟩
theorem Gro.trans {w w1 w2 : World} {v v1 v2 : Value} (h : Gro w w1 v v1) (k : Gro w1 w2 v1 v2) : Gro w w2 v v2 := by
  refine ⟨⟨k.g.os.trans h.g.os, k.g.tape.trans h.g.tape, k.g.output.trans h.g.output, Nat.le_trans h.g.size k.g.size, fun i hi hne => ?_⟩, ?_⟩
  · rw [k.g.block i (Nat.lt_of_lt_of_le hi h.g.size) (by
      rcases h.o with e | ⟨j, e, hj⟩
      · rw [e]; exact hne
      · rw [e]; intro e2; injection e2 with e2; omega)]
    exact h.g.block i hi hne
  · rcases k.o with e | ⟨j, e, hj⟩
    · rw [e]; exact h.o
    · exact .inr ⟨j, e, Nat.le_trans h.g.size hj⟩
theorem Gro.below {w w' : World} {v v' : Value} (h : Gro w w' v v') {B : Nat} {bs : List Int} (ho : OwnB w B v bs) (hB : B ≤ w.heap.size) : Below B w w' :=
  ⟨h.g.os, h.g.tape, h.g.output, h.g.size, fun k hk => h.g.block k (Nat.lt_of_lt_of_le hk hB) (fun e => by have := (ho.row.lt k e.symm).1; omega)⟩
theorem Gro.alloc (w : World) (v : Value) (o : Obj) : Gro w (w.alloc o) v v :=
  ⟨⟨rfl, rfl, rfl, by simp, fun k hk _ => ((Below.refl w.heap.size w).alloc (Nat.le_refl _) o).block k hk⟩, .inl rfl⟩
theorem Gro.of_below {w w' : World} (v : Value) (h : Below w.heap.size w w') : Gro w w' v v := ⟨⟨h.os, h.tape, h.output, h.size, fun k hk _ => h.block k hk⟩, .inl rfl⟩
theorem Byts.gro {w w' : World} {v v' : Value} {A : Option Addr} {n c : Nat} {zs : List Int} (h : Byts w A n c zs) (hg : Gro w w' v v') (hA : 0 < n → ∀ ad, A = some ad → v.ownBlock ≠ some ad.block) : Byts w' A n c zs :=
  ⟨h.len, h.cap, h.max, h.few, h.rng, fun hn => by
    obtain ⟨ad, e, hl, hc⟩ := h.mem hn
    have hbk := hg.g.block ad.block hl (fun e2 => hA hn ad e e2.symm)
    exact ⟨ad, e, Nat.lt_of_lt_of_le hl hg.g.size, fun j hj => (World.cell?_of_block (by rw [block_of_add]; exact hbk)).trans (hc j hj)⟩, h.nl⟩

theorem wpList_append_byteG {ops : Array Oper} {rest : List Oper} {o : Oper} {a : Act} {Q : Exit → Act → World → Prop} (w : World) (B : Nat) (v : Value) (zs : List Int) (x : Int)
    (hgd : o.guard = none) (s y : Operand) (ho : o.op = .call { callee := .builtin .append, args := #[s, y], argTypes := #[25, 25] })
    (hs : a.eval s = v) (hx : a.eval y = .slice (some ⟨w.heap.size, 0, none⟩) 1 1) (hown : OwnB w B v zs) (hB : B ≤ w.heap.size) (hf : zs.length < 17592186044416) (hr : 0 ≤ x ∧ x ≤ 255)
    (h : ∀ v' w', OwnB w' B v' (zs ++ [x]) → Gro w w' v v' → wpList Try.prog ops Q rest (a.put o.dst v') w') : wpList Try.prog ops Q (o :: rest) a (w.alloc (.cells #[.int .u8 x] 5)) := by
  obtain ⟨i0, hi, hz0, hz1, hz2⟩ := info_parts info_byte
  refine wpList_append_own_at _ hgd s y 25 ho B 5 i0 (.int .u8 0) 1 1 Try.underlying25 hi hz0 hz1 hz2 rfl (by decide) v zs.length (BCells zs) hs (hown.row.alloc _) ⟨w.heap.size, 0, none⟩ 1 1 [.int .u8 x] hx rfl ?_ ?_ ?_ ?_ ?_ ?_
  · intro j u hj
    match j, hj with
    | 0, hj => simp at hj; subst hj; simp [Addr.add]
  · intro u hu; simp at hu; subst hu; rfl
  · unfold maxLen; omega
  · omega
  · simp; omega
  · intro v' w' ho' hg _ hat
    refine h v' w' ⟨?_, ?_, ?_⟩ ?_
    · rw [BCells_snoc, List.length_append]; exact ho'
    · intro z hz
      rcases List.mem_append.1 hz with hz | hz
      · exact hown.rng z hz
      · rw [List.mem_singleton] at hz; subst hz; exact hr
    · simp; omega
    · refine (Gro.alloc w v (.cells #[.int .u8 x] 5)).trans ⟨hg, ?_⟩
      rcases hat with e | e
      · exact .inl e
      · exact .inr ⟨_, e, Nat.le_refl _⟩

theorem wpList_append_bytesG {ops : Array Oper} {rest : List Oper} {o : Oper} {a : Act} {Q : Exit → Act → World → Prop} (w : World) (B : Nat) (v : Value) (zs : List Int) (A : Option Addr) (m c : Nat) (ys : List Int)
    (hgd : o.guard = none) (s y : Operand) (ho : o.op = .call { callee := .builtin .append, args := #[s, y], argTypes := #[25, 25] })
    (hs : a.eval s = v) (hx : a.eval y = .slice A m c) (hown : OwnB w B v zs) (hB : B ≤ w.heap.size) (hi : Byts w A m c ys) (hf : zs.length + ys.length ≤ 17592186044416)
    (h : ∀ v' w', OwnB w' B v' (zs ++ ys) → Gro w w' v v' → wpList Try.prog ops Q rest (a.put o.dst v') w') : wpList Try.prog ops Q (o :: rest) a w := by
  obtain ⟨i0, hi0, hz0, hz1, hz2⟩ := info_parts info_byte
  cases A with
  | none =>
    have hc := hi.nl rfl
    have hm : m = 0 := by have := hi.cap; omega
    subst hc hm
    have hy : ys = [] := List.eq_nil_of_length_eq_zero hi.len
    subst hy
    refine wpList_append_own_none hgd s y 25 ho B 5 i0 1 Try.underlying25 hi0 v zs.length (BCells zs) hs hown.row hx (h v w (by rw [List.append_nil]; exact hown) (Gro.refl _ _))
  | some ad =>
    refine wpList_append_own_at w hgd s y 25 ho B 5 i0 (.int .u8 0) 1 1 Try.underlying25 hi0 hz0 hz1 hz2 rfl (by decide) v zs.length (BCells zs) hs hown.row ad m c (BCells ys) hx (by rw [BCells_length, hi.len, Nat.mul_one]) ?_ ?_ ?_ ?_ hB ?_
    · intro j u hj
      have hjl : j < ys.length := by
        have := (List.getElem?_eq_some_iff.1 hj).1
        rwa [BCells_length] at this
      rw [BCells_get ys j hjl] at hj
      obtain rfl := Option.some.inj hj
      obtain ⟨ad', e, _, hc⟩ := hi.mem (by rw [← hi.len]; omega)
      obtain rfl := Option.some.inj e
      exact hc j (by rw [← hi.len]; exact hjl)
    · intro u hu
      obtain ⟨z, _, rfl⟩ := List.mem_map.1 hu
      rfl
    · have := hi.len; unfold maxLen; omega
    · have := hi.len; omega
    · intro v' w' ho' hg _ hat
      refine h v' w' ⟨?_, ?_, ?_⟩ ⟨hg, ?_⟩
      · rw [BCells_append, List.length_append, hi.len]; exact ho'
      · intro z hz
        rcases List.mem_append.1 hz with hz | hz
        · exact hown.rng z hz
        · exact hi.rng z hz
      · rw [List.length_append]; exact hf
      · rcases hat with e | e
        · exact .inl e
        · exact .inr ⟨_, e, Nat.le_refl _⟩
end Go.Proofs.Ytchnfahgmceohaa
