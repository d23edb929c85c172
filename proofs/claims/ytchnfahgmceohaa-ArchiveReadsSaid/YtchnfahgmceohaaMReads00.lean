/- Slices of integers that read as lists, nil let in: what they are, what keeps them, what reading and cutting gives. No program in sight. -/
import Derived.Below
import Derived.Laws.OwnMore
import Derived.Deep.AppendLies
import Derived.Deep.Draws
import Derived.Lib.Hide
import Derived.ChangeSlices
import Derived.Test.YtchnfahgmceohaaProg
import Derived.WalkKit
import Derived.WalkLawsBesides
import Derived.OwnWalk
import Derived.Laws.MakeOwn

namespace Go.Proofs.Ytchnfahgmceohaa
open Go.RowKit
set_option linter.unusedVariables false

theorem below_then {B : Nat} {a b c : World} (h : Below B a b) (k : Below b.heap.size b c) (hs : B ≤ b.heap.size) : Below B a c := h.trans (k.mono hs)
theorem block_of_add (a : Addr) (n : Nat) : (a.add n).block = a.block := by unfold Addr.add; split <;> rfl
theorem add_of_add (a : Addr) (i j : Nat) : (a.add i).add j = a.add (i + j) := by
  unfold Addr.add
  by_cases hi : i = 0 <;> by_cases hj : j = 0 <;> simp [hi, hj, Nat.add_assoc]

/-- The element k of a list of integers, 0 behind its end. -/
def el (zs : List Int) (k : Nat) : Int := zs.getD k 0
/-- The slice with base A, length n, capacity c reads as the integers zs. -/
structure Ints (w : World) (A : Option Addr) (n c : Nat) (zs : List Int) : Prop where
  len : zs.length = n
  cap : n ≤ c
  max : c ≤ 9223372036854775807
  few : n ≤ 17592186044416
  rng : ∀ z ∈ zs, -9223372036854775808 ≤ z ∧ z ≤ 9223372036854775807
  mem : 0 < n → ∃ ad, A = some ad ∧ ad.block < w.heap.size ∧ ∀ j, j < n → w.cell? (ad.add j) = some (.int .i64 (el zs j))
  nl : A = none → c = 0

section
variable {w w' : World} {A : Option Addr} {n c : Nat} {zs : List Int}
theorem Ints.nil (w : World) : Ints w none 0 0 [] := ⟨rfl, Nat.le_refl _, by omega, by omega, by simp, fun h => absurd h (by omega), fun _ => rfl⟩
theorem Ints.at_ (h : Ints w A n c zs) {k : Nat} (hk : k < n) : ∃ ad, A = some ad ∧ ad.block < w.heap.size ∧ w.cell? (ad.add k) = some (.int .i64 (el zs k)) := by
  obtain ⟨ad, e, hb, hc⟩ := h.mem (by omega)
  exact ⟨ad, e, hb, hc k hk⟩
theorem Ints.rngD (h : Ints w A n c zs) (k : Nat) : -9223372036854775808 ≤ el zs k ∧ el zs k ≤ 9223372036854775807 := by
  unfold el
  rw [List.getD_eq_getElem?_getD]
  cases hz : zs[k]? with
  | none => simp
  | some z => exact h.rng z (List.mem_of_getElem? hz)
theorem Ints.below (h : Ints w A n c zs) (hb : Below w.heap.size w w') : Ints w' A n c zs :=
  ⟨h.len, h.cap, h.max, h.few, h.rng, fun hn => by
    obtain ⟨ad, e, hl, hc⟩ := h.mem hn
    exact ⟨ad, e, Nat.lt_of_lt_of_le hl hb.size, fun j hj => (hb.cell (p := ad.add j) (by rw [block_of_add]; exact hl)).trans (hc j hj)⟩, h.nl⟩
theorem Ints.alloc (h : Ints w A n c zs) (o : Obj) : Ints (w.alloc o) A n c zs := h.below ((Below.refl _ _).alloc (Nat.le_refl _) o)
theorem Ints.keep (h : Ints w A n c zs) (hs : w.heap.size ≤ w'.heap.size) (hc : ∀ ad j, A = some ad → j < n → w'.cell? (ad.add j) = w.cell? (ad.add j)) : Ints w' A n c zs :=
  ⟨h.len, h.cap, h.max, h.few, h.rng, fun hn => by
    obtain ⟨ad, e, hl, hm⟩ := h.mem hn
    exact ⟨ad, e, Nat.lt_of_lt_of_le hl hs, fun j hj => (hc ad j e hj).trans (hm j hj)⟩, h.nl⟩
theorem Ints.far (h : Ints w A n c zs) {p : Addr} (hp : ∀ ad, A = some ad → ad.block ≠ p.block) (u : Value) : Ints (w.setCell p u) A n c zs :=
  h.keep (by simp [World.setCell]) fun ad j e _ => World.cell?_setCell_other w p (ad.add j) u (by intro e2; exact hp ad e (by rw [← block_of_add ad j, ← e2]))
theorem Ints.drewN (h : Ints w A n c zs) (k : Nat) : Ints (w.drewN k) A n c zs := ⟨h.len, h.cap, h.max, h.few, h.rng, h.mem, h.nl⟩
/-- Cut from k on. -/
theorem Ints.drop (h : Ints w A n c zs) {k : Nat} (hk : k ≤ n) : Ints w (if c = k then A else A.map (·.add k)) (n - k) (c - k) (zs.drop k) := by
  refine ⟨by rw [List.length_drop, h.len], by have := h.cap; omega, by have := h.max; omega, by have := h.few; omega, fun z hz => h.rng z (List.mem_of_mem_drop hz), fun hn => ?_, fun e => ?_⟩
  rotate_left
  · cases A with
    | none => have := h.nl rfl; omega
    | some ad => split at e <;> cases e
  obtain ⟨ad, rfl, hl, hc⟩ := h.mem (by omega)
  rw [if_neg (by have := h.cap; omega)]
  refine ⟨ad.add k, rfl, by rw [block_of_add]; exact hl, fun j hj => ?_⟩
  rw [add_of_add, hc (k + j) (by omega)]
  simp [el, List.getD_eq_getElem?_getD, List.getElem?_drop]
/-- Cut at k. -/
theorem Ints.take (h : Ints w A n c zs) {k : Nat} (hk : k ≤ n) : Ints w A k c (zs.take k) := by
  refine ⟨by rw [List.length_take, h.len]; omega, by have := h.cap; omega, h.max, by have := h.few; omega, fun z hz => h.rng z (List.mem_of_mem_take hz), fun hn => ?_, h.nl⟩
  obtain ⟨ad, rfl, hl, hc⟩ := h.mem (by omega)
  refine ⟨ad, rfl, hl, fun j hj => ?_⟩
  rw [hc j (by omega), el, el, List.getD_eq_getElem?_getD, List.getD_eq_getElem?_getD, List.getElem?_take, if_pos hj]
theorem take_succ_el (zs : List Int) (k : Nat) (h : k < zs.length) : zs.take (k + 1) = zs.take k ++ [el zs k] := by
  unfold el
  rw [List.take_succ_eq_append_getElem h, List.getD_eq_getElem?_getD, List.getElem?_eq_getElem h]; rfl
theorem el_mem {k : Nat} (h : k < zs.length) : el zs k ∈ zs := by
  unfold el; rw [List.getD_eq_getElem?_getD, List.getElem?_eq_getElem h]; exact List.getElem_mem h
theorem ext_el {ys : List Int} (h : zs.length = ys.length) (he : ∀ k, k < zs.length → el zs k = el ys k) : zs = ys := by
  apply List.ext_getElem h
  intro i h1 h2
  have := he i h1
  unfold el at this
  rwa [List.getD_eq_getElem?_getD, List.getD_eq_getElem?_getD, List.getElem?_eq_getElem h1, List.getElem?_eq_getElem h2] at this
end
theorem ret_b {b b' : Bool} (h : b = b') : Ending.returned (.bool b) = .returned (.bool b') := by rw [h]
theorem ret_i {k : IntKind} {a b : Int} (h : a = b) : Ending.returned (.int k a) = .returned (.int k b) := by rw [h]
theorem below_drewN {B : Nat} {a w : World} (h : Below B a w) (n : Nat) : Below B a (w.drewN n) := ⟨h.os, h.tape, h.output, h.size, h.block⟩
end Go.Proofs.Ytchnfahgmceohaa

/- A slice of integers that the call itself makes and appends to; the append of one integer; rows of integers that are stored into. -/
namespace Go.Proofs.Ytchnfahgmceohaa
open Go.RowKit
set_option linter.unusedVariables false

theorem info_int : (Try.prog.info? 3).map (fun i => (i.zero, i.size, i.bytes)) = some (some (.int .i64 0), 1, 8) := by kernel_rfl

def Cells (zs : List Int) : List Value := zs.map (Value.int .i64)
theorem Cells_length (zs : List Int) : (Cells zs).length = zs.length := by simp [Cells]
theorem Cells_snoc (zs : List Int) (x : Int) : Cells (zs ++ [x]) = Cells zs ++ [.int .i64 x] := by simp [Cells]
theorem Cells_get (zs : List Int) (j : Nat) (h : j < zs.length) : (Cells zs)[j]? = some (.int .i64 (el zs j)) := by
  simp [Cells, el, h]

/-- The slice value v is the call's own (from block B on), and reads as the integers zs. -/
structure Own (w : World) (B : Nat) (v : Value) (zs : List Int) : Prop where
  row : w.ownsRow B 3 1 v zs.length (Cells zs)
  rng : ∀ z ∈ zs, -9223372036854775808 ≤ z ∧ z ≤ 9223372036854775807
  few : zs.length ≤ 17592186044416

theorem Own.nil (w : World) (B : Nat) : Own w B (.slice none 0 0) [] := ⟨World.ownsRow_nil _ _ _ _, by simp, by simp⟩
theorem Own.alloc {w : World} {B : Nat} {v : Value} {zs : List Int} (h : Own w B v zs) (o : Obj) : Own (w.alloc o) B v zs := ⟨h.row.alloc o, h.rng, h.few⟩
theorem Own.drewN {w : World} {B : Nat} {v : Value} {zs : List Int} (h : Own w B v zs) (k : Nat) : Own (w.drewN k) B v zs := ⟨h.row, h.rng, h.few⟩
/-- make([]int, 0, n): nothing yet, with room. -/
theorem make_room (n : Nat) (h : n ≤ 17592186044416) (w : World) : (Instr.makeSlice 34 (.int .i64 0) (.int .i64 (n : Int))).run Try.prog w = .ok (.slice (some ⟨w.heap.size, 0, none⟩) 0 n) (w.alloc (.cells (madeCells #[.int .i64 0] n) 3)) := by
  obtain ⟨i0, hi, hz0, hz1, hz2⟩ := info_parts info_int
  have hr := run_make (P := Try.prog) w 34 3 i0 (.int .i64 0) Try.underlying34 hi hz0 .i64 .i64 0 n (by omega) (by omega) (by rw [hz2]; omega) (by omega)
  simp only [Int.toNat_natCast, hz1, Nat.mul_one] at hr
  exact hr
theorem Own.room (w : World) (B n : Nat) (hB : B ≤ w.heap.size) (h : n ≤ 17592186044416) : Own (w.alloc (.cells (madeCells #[.int .i64 0] n) 3)) B (.slice (some ⟨w.heap.size, 0, none⟩) 0 n) [] :=
  ⟨World.ownsRow_made w _ n hB (by unfold maxLen; omega) (by rw [size_madeCells, Nat.mul_one]), by simp, by simp⟩
theorem Own.ints {w : World} {B : Nat} {v : Value} {zs : List Int} (h : Own w B v zs) : ∃ A n c, v = .slice A n c ∧ Ints w A n c zs ∧ ∀ ad, A = some ad → B ≤ ad.block := by
  rcases h.row.2 with ⟨rfl, hn⟩ | ⟨g, cap, cur, rfl, hb, hg, hnc, hm, hsz, htk⟩
  · have : zs = [] := List.eq_nil_of_length_eq_zero hn
    subst this
    exact ⟨none, 0, 0, rfl, Ints.nil w, fun ad e => by cases e⟩
  · refine ⟨some ⟨g, 0, none⟩, zs.length, cap, rfl, ⟨rfl, hnc, hm, h.few, h.rng, fun hn => ⟨_, rfl, (h.row.lt g rfl).2, fun j hj => ?_⟩, fun e => by cases e⟩, fun ad e => by injection e with e; subst e; exact hb⟩
    exact h.row.cells rfl j _ (Cells_get zs j hj)

theorem wpList_append_int {ops : Array Oper} {rest : List Oper} {o : Oper} {a : Act} {Q : Exit → Act → World → Prop} (w : World) (B : Nat) (v : Value) (zs : List Int) (x : Int)
    (hgd : o.guard = none) (s y : Operand) (ho : o.op = .call { callee := .builtin .append, args := #[s, y], argTypes := #[34, 34] })
    (hs : a.eval s = v) (hx : a.eval y = .slice (some ⟨w.heap.size, 0, none⟩) 1 1) (hown : Own w B v zs) (hB : B ≤ w.heap.size) (hf : zs.length < 17592186044416) (hr : -9223372036854775808 ≤ x ∧ x ≤ 9223372036854775807)
    (h : ∀ v' w', Own w' B v' (zs ++ [x]) → Below B w w' → wpList Try.prog ops Q rest (a.put o.dst v') w') : wpList Try.prog ops Q (o :: rest) a (w.alloc (.cells #[.int .i64 x] 3)) := by
  obtain ⟨i0, hi, hz0, hz1, hz2⟩ := info_parts info_int
  refine wpList_append_own _ hgd s y 34 ho B 3 i0 (.int .i64 0) 1 8 Try.underlying34 hi hz0 hz1 hz2 rfl (by decide) v zs.length (Cells zs) hs (hown.row.alloc _) ⟨w.heap.size, 0, none⟩ 1 1 [.int .i64 x] hx rfl ?_ ?_ ?_ ?_ ?_ ?_
  · intro j u hj
    match j, hj with
    | 0, hj => simp at hj; subst hj; simp [Addr.add]
  · intro u hu; simp at hu; subst hu; rfl
  · unfold maxLen; omega
  · omega
  · simp; omega
  · intro v' w' ho' hg _
    refine h v' w' ⟨?_, ?_, ?_⟩ ?_
    · rw [Cells_snoc, List.length_append]; exact ho'
    · intro z hz
      rcases List.mem_append.1 hz with hz | hz
      · exact hown.rng z hz
      · rw [List.mem_singleton] at hz; subst hz; exact hr
    · simp; omega
    · exact ((Below.refl B w).alloc hB _).grown hg (by simp; omega) (fun k hk => ((hown.row.alloc (.cells #[.int .i64 x] 3)).lt k hk).1)

theorem ret_v {k : IntKind} {a b : Int} (h : a = b) : Value.int k a = .int k b := by rw [h]
/-- What a function hands back that returns a list and an error number. -/
def RetL (zs : List Int) (x : Int) (w : World) (e : Ending) (w' : World) : Prop := ∃ A n c, e = .returned (.tuple #[.slice A n c, .int .i64 x]) ∧ Ints w' A n c zs ∧ Below w.heap.size w w' ∧ ∀ ad, A = some ad → w.heap.size ≤ ad.block
/-- .. and one that returns a list alone. -/
def Ret1 (zs : List Int) (w : World) (e : Ending) (w' : World) : Prop := ∃ A n c, e = .returned (.slice A n c) ∧ Ints w' A n c zs ∧ Below w.heap.size w w' ∧ ∀ ad, A = some ad → w.heap.size ≤ ad.block
theorem RetL.none_ {w w' : World} {x : Int} (hb : Below w.heap.size w w') : RetL [] x w (.returned (.tuple #[.slice none 0 0, .int .i64 x])) w' := ⟨none, 0, 0, rfl, Ints.nil _, hb, fun ad e => by cases e⟩
theorem RetL.own {w w' : World} {x : Int} {v : Value} {zs : List Int} (h : Own w' w.heap.size v zs) (hb : Below w.heap.size w w') : RetL zs x w (.returned (.tuple #[v, .int .i64 x])) w' := by
  obtain ⟨A, n, c, rfl, hi, hg⟩ := h.ints
  exact ⟨A, n, c, rfl, hi, hb, hg⟩
theorem Ret1.own {w w' : World} {v : Value} {zs : List Int} (h : Own w' w.heap.size v zs) (hb : Below w.heap.size w w') : Ret1 zs w (.returned v) w' := by
  obtain ⟨A, n, c, rfl, hi, hg⟩ := h.ints
  exact ⟨A, n, c, rfl, hi, hb, hg⟩

/-- The integers F 0, .., F (n - 1). -/
def fl (n : Nat) (F : Nat → Int) : List Int := (List.range n).map F
theorem fl_length (n : Nat) (F : Nat → Int) : (fl n F).length = n := by simp [fl]
theorem el_fl {n k : Nat} (F : Nat → Int) (h : k < n) : el (fl n F) k = F k := by simp [fl, el, h]
theorem fl_succ (n : Nat) (F : Nat → Int) : fl (n + 1) F = fl n F ++ [F n] := by simp [fl, List.range_succ]
theorem fl_el (zs : List Int) : fl zs.length (el zs) = zs := by
  apply ext_el (by rw [fl_length])
  intro k hk
  rw [fl_length] at hk
  exact el_fl _ hk
theorem fl_congr {n : Nat} {F G : Nat → Int} (h : ∀ k, k < n → F k = G k) : fl n F = fl n G := by
  apply List.map_congr_left
  intro k hk
  exact h k (List.mem_range.1 hk)
theorem fl_mem {n : Nat} {F : Nat → Int} {z : Int} (h : z ∈ fl n F) : ∃ k, k < n ∧ F k = z := by simpa [fl] using h

/-- Block g holds the integers F 0, .., F (n - 1) and may be written. -/
structure Row (w : World) (g n : Nat) (F : Nat → Int) : Prop where
  cell : ∀ j, j < n → w.cell? ⟨g, j, none⟩ = some (.int .i64 (F j))
  free : ∀ j, w.frozen? ⟨g, j, none⟩ = false
  lt : g < w.heap.size
theorem Row.below {w w' : World} {g n : Nat} {F : Nat → Int} (h : Row w g n F) {B : Nat} (hb : Below B w w') (hg : g < B) : Row w' g n F :=
  ⟨fun j hj => (hb.cell (p := ⟨g, j, none⟩) hg).trans (h.cell j hj), fun j => (hb.frozen (p := ⟨g, j, none⟩) hg).trans (h.free j), Nat.lt_of_lt_of_le h.lt hb.size⟩
theorem Row.drew {w : World} {g n : Nat} {F : Nat → Int} (h : Row w g n F) : Row w.drew g n F := ⟨h.cell, h.free, h.lt⟩
theorem Row.alloc {w : World} {g n : Nat} {F : Nat → Int} (h : Row w g n F) (o : Obj) : Row (w.alloc o) g n F := h.below ((Below.refl w.heap.size _).alloc (Nat.le_refl _) o) h.lt
theorem Row.far {w : World} {g n : Nat} {F : Nat → Int} (h : Row w g n F) {p : Addr} (hp : g ≠ p.block) (u : Value) : Row (w.setCell p u) g n F :=
  ⟨fun j hj => by rw [World.cell?_setCell_other w _ _ _ (by intro e; exact hp (by rw [e]))]; exact h.cell j hj, fun j => by rw [World.frozen?_setCell]; exact h.free j, by simp [World.setCell]; exact h.lt⟩
theorem Row.congr {w : World} {g n : Nat} {F G : Nat → Int} (h : Row w g n F) (e : ∀ k, k < n → F k = G k) : Row w g n G := ⟨fun j hj => by rw [← e j hj]; exact h.cell j hj, h.free, h.lt⟩
theorem Row.set {w : World} {g n : Nat} {F : Nat → Int} (h : Row w g n F) (k : Nat) (x : Int) : Row (w.setCell ⟨g, k, none⟩ (.int .i64 x)) g n (fun j => if j = k then x else F j) := by
  have hs : ∀ (v : Value), (w.setCell ⟨g, k, none⟩ v).heap.size = w.heap.size := fun v => by simp [World.setCell]
  refine ⟨fun j hj => ?_, fun j => ?_, by rw [hs]; exact h.lt⟩
  · by_cases hjk : j = k
    · subst hjk
      rw [if_pos rfl]
      exact World.cell?_setCell_same (u := .int .i64 (F j)) w ⟨g, j, none⟩ _ (h.cell j hj)
    · rw [if_neg hjk, World.cell?_setCell_other w _ _ _ (by intro e; injection e; omega)]
      exact h.cell j hj
  · rw [World.frozen?_setCell]; exact h.free j
theorem Row.ints {w : World} {g n c : Nat} {F : Nat → Int} (h : Row w g n F) (hc : n ≤ c) (hm : c ≤ 9223372036854775807) (hf : n ≤ 17592186044416) (hr : ∀ k, k < n → -9223372036854775808 ≤ F k ∧ F k ≤ 9223372036854775807) : Ints w (some ⟨g, 0, none⟩) n c (fl n F) :=
  ⟨fl_length _ _, hc, hm, hf, fun z hz => by obtain ⟨k, hk, rfl⟩ := fl_mem hz; exact hr k hk, fun hn => ⟨_, rfl, h.lt, fun j hj => by
    rw [el_fl F hj, show (⟨g, 0, none⟩ : Addr).add j = ⟨g, j, none⟩ from by rw [Addr.add_lit, Nat.zero_add]]; exact h.cell j hj⟩, fun e => by cases e⟩
/-- make([]int, n): a new block of zeros. -/
theorem Row.made (w : World) (n : Nat) : Row (w.alloc (.cells (madeCells #[.int .i64 0] n) 3)) w.heap.size n (fun _ => 0) := by
  refine ⟨fun j hj => ?_, fun j => by simp, by simp⟩
  rw [World.cell?_alloc_new]
  have : (madeCells #[Value.int .i64 0] n)[j]? = some (.int .i64 0) := by
    rw [← Array.getElem?_toList, toList_madeCells_one]; simp [hj]
  exact this
theorem make_ints (n : Nat) (h : n ≤ 17592186044416) (w : World) : (Instr.makeSlice 34 (.int .i64 (n : Int)) (.int .i64 (n : Int))).run Try.prog w = .ok (.slice (some ⟨w.heap.size, 0, none⟩) n n) (w.alloc (.cells (madeCells #[.int .i64 0] n) 3)) := by
  obtain ⟨i0, hi, hz0, hz1, hz2⟩ := info_parts info_int
  have hr := run_make (P := Try.prog) w 34 3 i0 (.int .i64 0) Try.underlying34 hi hz0 .i64 .i64 n n (by omega) (by omega) (by rw [hz2]; omega) (by omega)
  simp only [Int.toNat_natCast, hz1, Nat.mul_one] at hr
  exact hr
/-- A literal. -/
theorem Ints.lit (w : World) (zs : List Int) (hf : zs.length ≤ 1000) (hr : ∀ z ∈ zs, -9223372036854775808 ≤ z ∧ z ≤ 9223372036854775807) : Ints (w.alloc (.cells (Cells zs).toArray 3)) (some ⟨w.heap.size, 0, none⟩) zs.length zs.length zs := by
  refine ⟨rfl, Nat.le_refl _, by omega, by omega, hr, fun hn => ⟨_, rfl, by simp, fun j hj => ?_⟩, fun e => by cases e⟩
  rw [show (⟨w.heap.size, 0, none⟩ : Addr).add j = ⟨w.heap.size, j, none⟩ from by rw [Addr.add_lit, Nat.zero_add], World.cell?_alloc_new]
  rw [← Cells_get zs j hj]; simp
/-- The own slice as a row: what is stored into. -/
theorem Own.asRow {w : World} {B : Nat} {v : Value} {zs : List Int} (h : Own w B v zs) (hn : 0 < zs.length) : ∃ g c, v = .slice (some ⟨g, 0, none⟩) zs.length c ∧ B ≤ g ∧ zs.length ≤ c ∧ c ≤ 9223372036854775807 ∧ Row w g zs.length (el zs) := by
  rcases h.row.2 with ⟨_, h0⟩ | ⟨g, cap, cur, rfl, hb, hg, hnc, hm, hsz, htk⟩
  · omega
  · refine ⟨g, cap, rfl, hb, hnc, hm, fun j hj => ?_, fun j => ?_, (h.row.lt g rfl).2⟩
    · have := h.row.cells rfl j _ (Cells_get zs j hj)
      rwa [show (⟨g, 0, none⟩ : Addr).add j = ⟨g, j, none⟩ from by rw [Addr.add_lit, Nat.zero_add]] at this
    · simp [World.frozen?, hg]
theorem Own.asRowF {w : World} {B : Nat} {v : Value} {n : Nat} {F : Nat → Int} (h : Own w B v (fl n F)) (hn : 0 < n) : ∃ g c, v = .slice (some ⟨g, 0, none⟩) n c ∧ B ≤ g ∧ n ≤ c ∧ c ≤ 9223372036854775807 ∧ Row w g n F := by
  obtain ⟨g, c, hv, h1, h2, h3, h4⟩ := h.asRow (by rw [fl_length]; exact hn)
  rw [fl_length] at hv h2 h4
  exact ⟨g, c, hv, h1, h2, h3, h4.congr fun k hk => el_fl F hk⟩
theorem Own.setCell {w : World} {B : Nat} {v : Value} {zs : List Int} (h : Own w B v zs) {p : Addr} (hp : p.block < B) (u : Value) : Own (w.setCell p u) B v zs :=
  ⟨h.row.kept (row := some p.block) ⟨rfl, rfl, rfl, by simp [World.setCell], fun k hk hne => Below.heap_setCell w p u k (by intro e; exact hne (by rw [e]))⟩ (by
    rcases hv : v.ownBlock with _ | k
    · exact .inl rfl
    · refine .inr ?_
      intro e
      have := (h.row.lt k hv).1
      injection e with e
      omega), h.rng, h.few⟩
end Go.Proofs.Ytchnfahgmceohaa
