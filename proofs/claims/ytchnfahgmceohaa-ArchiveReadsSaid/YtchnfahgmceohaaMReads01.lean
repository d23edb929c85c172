/- Slices of bytes that read as lists, nil let in. No program in sight. -/
import Derived.Test.YtchnfahgmceohaaMReads00
import Derived.Laws.AppendOwnNone
import Derived.Lib.AppendZeros
import Derived.WalkSpells
import Derived.Handy
import Derived.Laws.OwnMore

namespace Go.Proofs.Ytchnfahgmceohaa
open Go.RowKit
set_option linter.unusedVariables false

/-- The slice with base A, length n, capacity c reads as the bytes zs. -/
structure Byts (w : World) (A : Option Addr) (n c : Nat) (zs : List Int) : Prop where
  len : zs.length = n
  cap : n ≤ c
  max : c ≤ 9223372036854775807
  few : n ≤ 140737488351232
  rng : ∀ z ∈ zs, 0 ≤ z ∧ z ≤ 255
  mem : 0 < n → ∃ ad, A = some ad ∧ ad.block < w.heap.size ∧ ∀ j, j < n → w.cell? (ad.add j) = some (.int .u8 (el zs j))
  nl : A = none → c = 0

section
variable {w w' : World} {A : Option Addr} {n c : Nat} {zs : List Int}
theorem Byts.nil (w : World) : Byts w none 0 0 [] := ⟨rfl, Nat.le_refl _, by omega, by omega, by simp, fun h => absurd h (by omega), fun _ => rfl⟩
theorem Byts.at_ (h : Byts w A n c zs) {k : Nat} (hk : k < n) : ∃ ad, A = some ad ∧ ad.block < w.heap.size ∧ w.cell? (ad.add k) = some (.int .u8 (el zs k)) := by
  obtain ⟨ad, e, hb, hc⟩ := h.mem (by omega)
  exact ⟨ad, e, hb, hc k hk⟩
theorem Byts.rngD (h : Byts w A n c zs) (k : Nat) : 0 ≤ el zs k ∧ el zs k ≤ 255 := by
  unfold el
  rw [List.getD_eq_getElem?_getD]
  cases hz : zs[k]? with
  | none => simp
  | some z => exact h.rng z (List.mem_of_getElem? hz)
theorem Byts.below (h : Byts w A n c zs) (hb : Below w.heap.size w w') : Byts w' A n c zs :=
  ⟨h.len, h.cap, h.max, h.few, h.rng, fun hn => by
    obtain ⟨ad, e, hl, hc⟩ := h.mem hn
    exact ⟨ad, e, Nat.lt_of_lt_of_le hl hb.size, fun j hj => (hb.cell (p := ad.add j) (by rw [block_of_add]; exact hl)).trans (hc j hj)⟩, h.nl⟩
theorem Byts.alloc (h : Byts w A n c zs) (o : Obj) : Byts (w.alloc o) A n c zs := h.below ((Below.refl _ _).alloc (Nat.le_refl _) o)
theorem Byts.keep (h : Byts w A n c zs) (hs : w.heap.size ≤ w'.heap.size) (hc : ∀ ad j, A = some ad → j < n → w'.cell? (ad.add j) = w.cell? (ad.add j)) : Byts w' A n c zs :=
  ⟨h.len, h.cap, h.max, h.few, h.rng, fun hn => by
    obtain ⟨ad, e, hl, hm⟩ := h.mem hn
    exact ⟨ad, e, Nat.lt_of_lt_of_le hl hs, fun j hj => (hc ad j e hj).trans (hm j hj)⟩, h.nl⟩
theorem Byts.far (h : Byts w A n c zs) {p : Addr} (hp : ∀ ad, A = some ad → ad.block ≠ p.block) (u : Value) : Byts (w.setCell p u) A n c zs :=
  h.keep (by simp [World.setCell]) fun ad j e _ => World.cell?_setCell_other w p (ad.add j) u (by intro e2; exact hp ad e (by rw [← block_of_add ad j, ← e2]))
theorem Byts.drewN (h : Byts w A n c zs) (k : Nat) : Byts (w.drewN k) A n c zs := ⟨h.len, h.cap, h.max, h.few, h.rng, h.mem, h.nl⟩
/-- Cut from k on. -/
theorem Byts.drop (h : Byts w A n c zs) {k : Nat} (hk : k ≤ n) : Byts w (if c = k then A else A.map (·.add k)) (n - k) (c - k) (zs.drop k) := by
  refine ⟨by rw [List.length_drop, h.len], by have := h.cap; omega, by have := h.max; omega, by have := h.few; omega, fun z hz => h.rng z (List.mem_of_mem_drop hz), fun hn => ?_, fun e => ?_⟩
  rotate_left
  · cases A with
    | none => have := h.nl rfl; omega
    | some ad => split at e <;> cases e
  obtain ⟨ad, rfl, hl, hc⟩ := h.mem (by omega)
  rw [if_neg (by have := h.cap; omega)]
  refine ⟨ad.add k, rfl, by rw [block_of_add]; exact hl, fun j hj => ?_⟩
  rw [add_of_add, hc (k + j) (by omega)]
  simp [el, List.getD_eq_getElem?_getD, List.getElem?_drop]
/-- Cut at k. -/
theorem Byts.take (h : Byts w A n c zs) {k : Nat} (hk : k ≤ n) : Byts w A k c (zs.take k) := by
  refine ⟨by rw [List.length_take, h.len]; omega, by have := h.cap; omega, h.max, by have := h.few; omega, fun z hz => h.rng z (List.mem_of_mem_take hz), fun hn => ?_, h.nl⟩
  obtain ⟨ad, rfl, hl, hc⟩ := h.mem (by omega)
  refine ⟨ad, rfl, hl, fun j hj => ?_⟩
  rw [hc j (by omega), el, el, List.getD_eq_getElem?_getD, List.getD_eq_getElem?_getD, List.getElem?_take, if_pos hj]
end
end Go.Proofs.Ytchnfahgmceohaa

/- A slice of bytes that the call itself makes and appends to. -/
namespace Go.Proofs.Ytchnfahgmceohaa
open Go.RowKit
set_option linter.unusedVariables false

theorem info_byte : (Try.prog.info? 5).map (fun i => (i.zero, i.size, i.bytes)) = some (some (.int .u8 0), 1, 1) := by kernel_rfl

def BCells (zs : List Int) : List Value := zs.map (Value.int .u8)
theorem BCells_length (zs : List Int) : (BCells zs).length = zs.length := by simp [BCells]
theorem BCells_snoc (zs : List Int) (x : Int) : BCells (zs ++ [x]) = BCells zs ++ [.int .u8 x] := by simp [BCells]
theorem BCells_get (zs : List Int) (j : Nat) (h : j < zs.length) : (BCells zs)[j]? = some (.int .u8 (el zs j)) := by
  simp [BCells, el, h]

/-- The slice value v is the call's own (from block B on), and reads as the bytes zs. -/
structure OwnB (w : World) (B : Nat) (v : Value) (zs : List Int) : Prop where
  row : w.ownsRow B 5 1 v zs.length (BCells zs)
  rng : ∀ z ∈ zs, 0 ≤ z ∧ z ≤ 255
  few : zs.length ≤ 17592186044416

theorem OwnB.nil (w : World) (B : Nat) : OwnB w B (.slice none 0 0) [] := ⟨World.ownsRow_nil _ _ _ _, by simp, by simp⟩
theorem OwnB.alloc {w : World} {B : Nat} {v : Value} {zs : List Int} (h : OwnB w B v zs) (o : Obj) : OwnB (w.alloc o) B v zs := ⟨h.row.alloc o, h.rng, h.few⟩
theorem OwnB.drewN {w : World} {B : Nat} {v : Value} {zs : List Int} (h : OwnB w B v zs) (k : Nat) : OwnB (w.drewN k) B v zs := ⟨h.row, h.rng, h.few⟩
/-- make([]int, 0, n): nothing yet, with room. -/
theorem make_roomB (n : Nat) (h : n ≤ 17592186044416) (w : World) : (Instr.makeSlice 25 (.int .i64 0) (.int .i64 (n : Int))).run Try.prog w = .ok (.slice (some ⟨w.heap.size, 0, none⟩) 0 n) (w.alloc (.cells (madeCells #[.int .u8 0] n) 5)) := by
  obtain ⟨i0, hi, hz0, hz1, hz2⟩ := info_parts info_byte
  have hr := run_make (P := Try.prog) w 25 5 i0 (.int .u8 0) Try.underlying25 hi hz0 .i64 .i64 0 n (by omega) (by omega) (by rw [hz2]; omega) (by omega)
  simp only [Int.toNat_natCast, hz1, Nat.mul_one] at hr
  exact hr
theorem OwnB.room (w : World) (B n : Nat) (hB : B ≤ w.heap.size) (h : n ≤ 17592186044416) : OwnB (w.alloc (.cells (madeCells #[.int .u8 0] n) 5)) B (.slice (some ⟨w.heap.size, 0, none⟩) 0 n) [] :=
  ⟨World.ownsRow_made w _ n hB (by unfold maxLen; omega) (by rw [size_madeCells, Nat.mul_one]), by simp, by simp⟩
theorem OwnB.ints {w : World} {B : Nat} {v : Value} {zs : List Int} (h : OwnB w B v zs) : ∃ A n c, v = .slice A n c ∧ Byts w A n c zs ∧ ∀ ad, A = some ad → B ≤ ad.block := by
  rcases h.row.2 with ⟨rfl, hn⟩ | ⟨g, cap, cur, rfl, hb, hg, hnc, hm, hsz, htk⟩
  · have : zs = [] := List.eq_nil_of_length_eq_zero hn
    subst this
    exact ⟨none, 0, 0, rfl, Byts.nil w, fun ad e => by cases e⟩
  · refine ⟨some ⟨g, 0, none⟩, zs.length, cap, rfl, ⟨rfl, hnc, hm, by have := h.few; omega, h.rng, fun hn => ⟨_, rfl, (h.row.lt g rfl).2, fun j hj => ?_⟩, fun e => by cases e⟩, fun ad e => by injection e with e; subst e; exact hb⟩
    exact h.row.cells rfl j _ (BCells_get zs j hj)

theorem wpList_append_byte {ops : Array Oper} {rest : List Oper} {o : Oper} {a : Act} {Q : Exit → Act → World → Prop} (w : World) (B : Nat) (v : Value) (zs : List Int) (x : Int)
    (hgd : o.guard = none) (s y : Operand) (ho : o.op = .call { callee := .builtin .append, args := #[s, y], argTypes := #[25, 25] })
    (hs : a.eval s = v) (hx : a.eval y = .slice (some ⟨w.heap.size, 0, none⟩) 1 1) (hown : OwnB w B v zs) (hB : B ≤ w.heap.size) (hf : zs.length < 17592186044416) (hr : 0 ≤ x ∧ x ≤ 255)
    (h : ∀ v' w', OwnB w' B v' (zs ++ [x]) → Below B w w' → wpList Try.prog ops Q rest (a.put o.dst v') w') : wpList Try.prog ops Q (o :: rest) a (w.alloc (.cells #[.int .u8 x] 5)) := by
  obtain ⟨i0, hi, hz0, hz1, hz2⟩ := info_parts info_byte
  refine wpList_append_own _ hgd s y 25 ho B 5 i0 (.int .u8 0) 1 1 Try.underlying25 hi hz0 hz1 hz2 rfl (by decide) v zs.length (BCells zs) hs (hown.row.alloc _) ⟨w.heap.size, 0, none⟩ 1 1 [.int .u8 x] hx rfl ?_ ?_ ?_ ?_ ?_ ?_
  · intro j u hj
    match j, hj with
    | 0, hj => simp at hj; subst hj; simp [Addr.add]
  · intro u hu; simp at hu; subst hu; rfl
  · unfold maxLen; omega
  · omega
  · simp; omega
  · intro v' w' ho' hg _
    refine h v' w' ⟨?_, ?_, ?_⟩ ?_
    · rw [BCells_snoc, List.length_append]; exact ho'
    · intro z hz
      rcases List.mem_append.1 hz with hz | hz
      · exact hown.rng z hz
      · rw [List.mem_singleton] at hz; subst hz; exact hr
    · simp; omega
    · exact ((Below.refl B w).alloc hB _).grown hg (by simp; omega) (fun k hk => ((hown.row.alloc (.cells #[.int .u8 x] 5)).lt k hk).1)

/-- A literal. -/
theorem Byts.lit (w : World) (zs : List Int) (hf : zs.length ≤ 1000) (hr : ∀ z ∈ zs, 0 ≤ z ∧ z ≤ 255) : Byts (w.alloc (.cells (BCells zs).toArray 5)) (some ⟨w.heap.size, 0, none⟩) zs.length zs.length zs := by
  refine ⟨rfl, Nat.le_refl _, by omega, by omega, hr, fun hn => ⟨_, rfl, by simp, fun j hj => ?_⟩, fun e => by cases e⟩
  rw [show (⟨w.heap.size, 0, none⟩ : Addr).add j = ⟨w.heap.size, j, none⟩ from by rw [Addr.add_lit, Nat.zero_add], World.cell?_alloc_new]
  rw [← BCells_get zs j hj]; simp
theorem BCells_append (zs ys : List Int) : BCells (zs ++ ys) = BCells zs ++ BCells ys := by simp [BCells]
theorem wpList_append_bytes {ops : Array Oper} {rest : List Oper} {o : Oper} {a : Act} {Q : Exit → Act → World → Prop} (w : World) (B : Nat) (v : Value) (zs : List Int) (A : Option Addr) (m c : Nat) (ys : List Int)
    (hgd : o.guard = none) (s y : Operand) (ho : o.op = .call { callee := .builtin .append, args := #[s, y], argTypes := #[25, 25] })
    (hs : a.eval s = v) (hx : a.eval y = .slice A m c) (hown : OwnB w B v zs) (hB : B ≤ w.heap.size) (hi : Byts w A m c ys) (hf : zs.length + ys.length ≤ 17592186044416)
    (h : ∀ v' w', OwnB w' B v' (zs ++ ys) → Below B w w' → wpList Try.prog ops Q rest (a.put o.dst v') w') : wpList Try.prog ops Q (o :: rest) a w := by
  obtain ⟨i0, hi0, hz0, hz1, hz2⟩ := info_parts info_byte
  cases A with
  | none =>
    have hc := hi.nl rfl
    have hm : m = 0 := by have := hi.cap; omega
    subst hc hm
    have hy : ys = [] := List.eq_nil_of_length_eq_zero hi.len
    subst hy
    refine wpList_append_own_none hgd s y 25 ho B 5 i0 1 Try.underlying25 hi0 v zs.length (BCells zs) hs hown.row hx (h v w (by rw [List.append_nil]; exact hown) (Below.refl _ _))
  | some ad =>
    refine wpList_append_own w hgd s y 25 ho B 5 i0 (.int .u8 0) 1 1 Try.underlying25 hi0 hz0 hz1 hz2 rfl (by decide) v zs.length (BCells zs) hs hown.row ad m c (BCells ys) hx (by rw [BCells_length, hi.len, Nat.mul_one]) ?_ ?_ ?_ ?_ hB ?_
    · intro j u hj
      have hjl : j < ys.length := by
        have := (List.getElem?_eq_some_iff.1 hj).1
        rwa [BCells_length] at this
      rw [BCells_get ys j hjl] at hj
      obtain rfl := Option.some.inj hj
      obtain ⟨ad', e, _, hc⟩ := hi.mem (by rw [← hi.len]; omega)
      obtain rfl := Option.some.inj e
      exact hc j (by rw [← hi.len]; exact hjl)
    · intro u hu
      obtain ⟨z, _, rfl⟩ := List.mem_map.1 hu
      rfl
    · have := hi.len; unfold maxLen; omega
    · have := hi.len; omega
    · intro v' w' ho' hg _
      refine h v' w' ⟨?_, ?_, ?_⟩ ?_
      · rw [BCells_append, List.length_append, hi.len]; exact ho'
      · intro z hz
        rcases List.mem_append.1 hz with hz | hz
        · exact hown.rng z hz
        · exact hi.rng z hz
      · rw [List.length_append]; exact hf
      · exact (Below.refl B w).grown hg hB (fun k hk => (hown.row.lt k hk).1)

theorem OwnB.empty (w : World) (B : Nat) (hB : B ≤ w.heap.size) : OwnB (w.alloc (.cells #[] 5)) B (.slice (some ⟨w.heap.size, 0, none⟩) 0 0) [] :=
  ⟨World.ownsRow_made w _ 0 hB (by unfold maxLen; omega) rfl, by simp, by simp⟩


theorem OwnB.lit3 (w : World) : OwnB (w.alloc (.cells #[.int .u8 82, .int .u8 65, .int .u8 1] 5)) w.heap.size (.slice (some ⟨w.heap.size, 0, none⟩) 3 3) [82, 65, 1] :=
  ⟨World.ownsRow_lit w #[.int .u8 82, .int .u8 65, .int .u8 1] 3 (Nat.le_refl _) (by unfold maxLen; omega) rfl, by decide, by decide⟩
end Go.Proofs.Ytchnfahgmceohaa
