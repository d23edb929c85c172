/- A slice of integers that the call itself makes and appends to; the append of one integer; rows of integers that are stored into. -/
import Derived.Test.YtfhikdgdckfalaaProg
import Derived.WalkKit
import Derived.WalkLawsBesides
import Derived.OwnWalk
import Derived.Laws.MakeOwn
import Derived.Test.YtfhikdgdckfalaaMB00
import Derived.Handy

namespace Go.Proofs.Ytfhikdgdckfalaa
open Go.RowKit
set_option linter.unusedVariables false

theorem info_int : (Try.prog.info? 3).map (fun i => (i.zero, i.size, i.bytes)) = some (some (.int .i64 0), 1, 8) := by kernel_rfl

def Cells (zs : List Int) : List Value := zs.map (Value.int .i64)
theorem Cells_length (zs : List Int) : (Cells zs).length = zs.length := by simp [Cells]
theorem Cells_snoc (zs : List Int) (x : Int) : Cells (zs ++ [x]) = Cells zs ++ [.int .i64 x] := by simp [Cells]
theorem Cells_get (zs : List Int) (j : Nat) (h : j < zs.length) : (Cells zs)[j]? = some (.int .i64 (el zs j)) := by
  simp [Cells, el, h]

/-- The slice value v is the call's own (from block B on), and reads as the integers zs. -/
structure Own (w : World) (B : Nat) (v : Value) (zs : List Int) : Prop where
  row : w.ownsRow B 3 1 v zs.length (Cells zs)
  rng : ∀ z ∈ zs, -9223372036854775808 ≤ z ∧ z ≤ 9223372036854775807
  few : zs.length ≤ 17592186044416

theorem Own.nil (w : World) (B : Nat) : Own w B (.slice none 0 0) [] := ⟨World.ownsRow_nil _ _ _ _, by simp, by simp⟩
theorem Own.alloc {w : World} {B : Nat} {v : Value} {zs : List Int} (h : Own w B v zs) (o : Obj) : Own (w.alloc o) B v zs := ⟨h.row.alloc o, h.rng, h.few⟩
theorem Own.drewN {w : World} {B : Nat} {v : Value} {zs : List Int} (h : Own w B v zs) (k : Nat) : Own (w.drewN k) B v zs := ⟨h.row, h.rng, h.few⟩
/-- make([]int, 0, n): nothing yet, with room. -/
theorem make_room (n : Nat) (h : n ≤ 17592186044416) (w : World) : (Instr.makeSlice 23 (.int .i64 0) (.int .i64 (n : Int))).run Try.prog w = .ok (.slice (some ⟨w.heap.size, 0, none⟩) 0 n) (w.alloc (.cells (madeCells #[.int .i64 0] n) 3)) := by
  obtain ⟨i0, hi, hz0, hz1, hz2⟩ := info_parts info_int
  have hr := run_make (P := Try.prog) w 23 3 i0 (.int .i64 0) Try.underlying23 hi hz0 .i64 .i64 0 n (by omega) (by omega) (by rw [hz2]; omega) (by omega)
  simp only [Int.toNat_natCast, hz1, Nat.mul_one] at hr
  exact hr
theorem Own.room (w : World) (B n : Nat) (hB : B ≤ w.heap.size) (h : n ≤ 17592186044416) : Own (w.alloc (.cells (madeCells #[.int .i64 0] n) 3)) B (.slice (some ⟨w.heap.size, 0, none⟩) 0 n) [] :=
  ⟨World.ownsRow_made w _ n hB (by unfold maxLen; omega) (by rw [size_madeCells, Nat.mul_one]), by simp, by simp⟩
theorem Own.ints {w : World} {B : Nat} {v : Value} {zs : List Int} (h : Own w B v zs) : ∃ A n c, v = .slice A n c ∧ Ints w A n c zs ∧ ∀ ad, A = some ad → B ≤ ad.block := by
  rcases h.row.2 with ⟨rfl, hn⟩ | ⟨g, cap, cur, rfl, hb, hg, hnc, hm, hsz, htk⟩
  · have : zs = [] := List.eq_nil_of_length_eq_zero hn
    subst this
    exact ⟨none, 0, 0, rfl, Ints.nil w, fun ad e => by cases e⟩
  · refine ⟨some ⟨g, 0, none⟩, zs.length, cap, rfl, ⟨rfl, hnc, hm, h.few, h.rng, fun hn => ⟨_, rfl, (h.row.lt g rfl).2, fun j hj => ?_⟩, fun e => by cases e⟩, fun ad e => by injection e with e; subst e; exact hb⟩
    exact h.row.cells rfl j _ (Cells_get zs j hj)

theorem wpList_append_int {ops : Array Oper} {rest : List Oper} {o : Oper} {a : Act} {Q : Exit → Act → World → Prop} (w : World) (B : Nat) (v : Value) (zs : List Int) (x : Int)
    (hgd : o.guard = none) (s y : Operand) (ho : o.op = .call { callee := .builtin .append, args := #[s, y], argTypes := #[23, 23] })
    (hs : a.eval s = v) (hx : a.eval y = .slice (some ⟨w.heap.size, 0, none⟩) 1 1) (hown : Own w B v zs) (hB : B ≤ w.heap.size) (hf : zs.length < 17592186044416) (hr : -9223372036854775808 ≤ x ∧ x ≤ 9223372036854775807)
    (h : ∀ v' w', Own w' B v' (zs ++ [x]) → Below B w w' → wpList Try.prog ops Q rest (a.put o.dst v') w') : wpList Try.prog ops Q (o :: rest) a (w.alloc (.cells #[.int .i64 x] 3)) := by
  obtain ⟨i0, hi, hz0, hz1, hz2⟩ := info_parts info_int
  refine wpList_append_own _ hgd s y 23 ho B 3 i0 (.int .i64 0) 1 8 Try.underlying23 hi hz0 hz1 hz2 rfl (by decide) v zs.length (Cells zs) hs (hown.row.alloc _) ⟨w.heap.size, 0, none⟩ 1 1 [.int .i64 x] hx rfl ?_ ?_ ?_ ?_ ?_ ?_
  · intro j u hj
    match j, hj with
    | 0, hj => simp at hj; subst hj; simp [Addr.add]
  · intro u hu; simp at hu; subst hu; rfl
  · unfold maxLen; omega
  · omega
  · simp; omega
  · intro v' w' ho' hg _
    refine h v' w' ⟨?_, ?_, ?_⟩ ?_
    · rw [Cells_snoc, List.length_append]; exact ho'
    · intro z hz
      rcases List.mem_append.1 hz with hz | hz
      · exact hown.rng z hz
      · rw [List.mem_singleton] at hz; subst hz; exact hr
    · simp; omega
    · exact ((Below.refl B w).alloc hB _).grown hg (by simp; omega) (fun k hk => ((hown.row.alloc (.cells #[.int .i64 x] 3)).lt k hk).1)

theorem ret_v {k : IntKind} {a b : Int} (h : a = b) : Value.int k a = .int k b := by rw [h]
/-- What a function hands back that returns a list and an error number. -/
def RetL (zs : List Int) (x : Int) (w : World) (e : Ending) (w' : World) : Prop := ∃ A n c, e = .returned (.tuple #[.slice A n c, .int .i64 x]) ∧ Ints w' A n c zs ∧ Below w.heap.size w w' ∧ ∀ ad, A = some ad → w.heap.size ≤ ad.block
/-- .. and one that returns a list alone. -/
def Ret1 (zs : List Int) (w : World) (e : Ending) (w' : World) : Prop := ∃ A n c, e = .returned (.slice A n c) ∧ Ints w' A n c zs ∧ Below w.heap.size w w' ∧ ∀ ad, A = some ad → w.heap.size ≤ ad.block
theorem RetL.none_ {w w' : World} {x : Int} (hb : Below w.heap.size w w') : RetL [] x w (.returned (.tuple #[.slice none 0 0, .int .i64 x])) w' := ⟨none, 0, 0, rfl, Ints.nil _, hb, fun ad e => by cases e⟩
theorem RetL.own {w w' : World} {x : Int} {v : Value} {zs : List Int} (h : Own w' w.heap.size v zs) (hb : Below w.heap.size w w') : RetL zs x w (.returned (.tuple #[v, .int .i64 x])) w' := by
  obtain ⟨A, n, c, rfl, hi, hg⟩ := h.ints
  exact ⟨A, n, c, rfl, hi, hb, hg⟩
theorem Ret1.own {w w' : World} {v : Value} {zs : List Int} (h : Own w' w.heap.size v zs) (hb : Below w.heap.size w w') : Ret1 zs w (.returned v) w' := by
  obtain ⟨A, n, c, rfl, hi, hg⟩ := h.ints
  exact ⟨A, n, c, rfl, hi, hb, hg⟩

/-- The integers F 0, .., F (n - 1). -/
def fl (n : Nat) (F : Nat → Int) : List Int := (List.range n).map F
theorem fl_length (n : Nat) (F : Nat → Int) : (fl n F).length = n := by simp [fl]
theorem el_fl {n k : Nat} (F : Nat → Int) (h : k < n) : el (fl n F) k = F k := by simp [fl, el, h]
theorem fl_succ (n : Nat) (F : Nat → Int) : fl (n + 1) F = fl n F ++ [F n] := by simp [fl, List.range_succ]
theorem fl_el (zs : List Int) : fl zs.length (el zs) = zs := by
  apply ext_el (by rw [fl_length])
  intro k hk
  rw [fl_length] at hk
  exact el_fl _ hk
theorem fl_congr {n : Nat} {F G : Nat → Int} (h : ∀ k, k < n → F k = G k) : fl n F = fl n G := by
  apply List.map_congr_left
  intro k hk
  exact h k (List.mem_range.1 hk)
theorem fl_mem {n : Nat} {F : Nat → Int} {z : Int} (h : z ∈ fl n F) : ∃ k, k < n ∧ F k = z := by simpa [fl] using h

/-- Block g holds the integers F 0, .., F (n - 1) and may be written. -/
structure Row (w : World) (g n : Nat) (F : Nat → Int) : Prop where
  cell : ∀ j, j < n → w.cell? ⟨g, j, none⟩ = some (.int .i64 (F j))
  free : ∀ j, w.frozen? ⟨g, j, none⟩ = false
  lt : g < w.heap.size
theorem Row.below {w w' : World} {g n : Nat} {F : Nat → Int} (h : Row w g n F) {B : Nat} (hb : Below B w w') (hg : g < B) : Row w' g n F :=
  ⟨fun j hj => (hb.cell (p := ⟨g, j, none⟩) hg).trans (h.cell j hj), fun j => (hb.frozen (p := ⟨g, j, none⟩) hg).trans (h.free j), Nat.lt_of_lt_of_le h.lt hb.size⟩
theorem Row.drew {w : World} {g n : Nat} {F : Nat → Int} (h : Row w g n F) : Row w.drew g n F := ⟨h.cell, h.free, h.lt⟩
theorem Row.alloc {w : World} {g n : Nat} {F : Nat → Int} (h : Row w g n F) (o : Obj) : Row (w.alloc o) g n F := h.below ((Below.refl w.heap.size _).alloc (Nat.le_refl _) o) h.lt
theorem Row.far {w : World} {g n : Nat} {F : Nat → Int} (h : Row w g n F) {p : Addr} (hp : g ≠ p.block) (u : Value) : Row (w.setCell p u) g n F :=
  ⟨fun j hj => by rw [World.cell?_setCell_other w _ _ _ (by intro e; exact hp (by rw [e]))]; exact h.cell j hj, fun j => by rw [World.frozen?_setCell]; exact h.free j, by simp [World.setCell]; exact h.lt⟩
theorem Row.congr {w : World} {g n : Nat} {F G : Nat → Int} (h : Row w g n F) (e : ∀ k, k < n → F k = G k) : Row w g n G := ⟨fun j hj => by rw [← e j hj]; exact h.cell j hj, h.free, h.lt⟩
theorem Row.set {w : World} {g n : Nat} {F : Nat → Int} (h : Row w g n F) (k : Nat) (x : Int) : Row (w.setCell ⟨g, k, none⟩ (.int .i64 x)) g n (fun j => if j = k then x else F j) := by
  have hs : ∀ (v : Value), (w.setCell ⟨g, k, none⟩ v).heap.size = w.heap.size := fun v => by simp [World.setCell]
  refine ⟨fun j hj => ?_, fun j => ?_, by rw [hs]; exact h.lt⟩
  · by_cases hjk : j = k
    · subst hjk
      rw [if_pos rfl]
      exact World.cell?_setCell_same (u := .int .i64 (F j)) w ⟨g, j, none⟩ _ (h.cell j hj)
    · rw [if_neg hjk, World.cell?_setCell_other w _ _ _ (by intro e; injection e; omega)]
      exact h.cell j hj
  · rw [World.frozen?_setCell]; exact h.free j
theorem Row.ints {w : World} {g n c : Nat} {F : Nat → Int} (h : Row w g n F) (hc : n ≤ c) (hm : c ≤ 9223372036854775807) (hf : n ≤ 17592186044416) (hr : ∀ k, k < n → -9223372036854775808 ≤ F k ∧ F k ≤ 9223372036854775807) : Ints w (some ⟨g, 0, none⟩) n c (fl n F) :=
  ⟨fl_length _ _, hc, hm, hf, fun z hz => by obtain ⟨k, hk, rfl⟩ := fl_mem hz; exact hr k hk, fun hn => ⟨_, rfl, h.lt, fun j hj => by
    rw [el_fl F hj, show (⟨g, 0, none⟩ : Addr).add j = ⟨g, j, none⟩ from by rw [Addr.add_lit, Nat.zero_add]]; exact h.cell j hj⟩, fun e => by cases e⟩
/-- make([]int, n): a new block of zeros. -/
theorem Row.made (w : World) (n : Nat) : Row (w.alloc (.cells (madeCells #[.int .i64 0] n) 3)) w.heap.size n (fun _ => 0) := by
  refine ⟨fun j hj => ?_, fun j => by simp, by simp⟩
  rw [World.cell?_alloc_new]
  have : (madeCells #[Value.int .i64 0] n)[j]? = some (.int .i64 0) := by
    rw [← Array.getElem?_toList, toList_madeCells_one]; simp [hj]
  exact this
theorem make_ints (n : Nat) (h : n ≤ 17592186044416) (w : World) : (Instr.makeSlice 23 (.int .i64 (n : Int)) (.int .i64 (n : Int))).run Try.prog w = .ok (.slice (some ⟨w.heap.size, 0, none⟩) n n) (w.alloc (.cells (madeCells #[.int .i64 0] n) 3)) := by
  obtain ⟨i0, hi, hz0, hz1, hz2⟩ := info_parts info_int
  have hr := run_make (P := Try.prog) w 23 3 i0 (.int .i64 0) Try.underlying23 hi hz0 .i64 .i64 n n (by omega) (by omega) (by rw [hz2]; omega) (by omega)
  simp only [Int.toNat_natCast, hz1, Nat.mul_one] at hr
  exact hr
/-- A literal. -/
theorem Ints.lit (w : World) (zs : List Int) (hf : zs.length ≤ 1000) (hr : ∀ z ∈ zs, -9223372036854775808 ≤ z ∧ z ≤ 9223372036854775807) : Ints (w.alloc (.cells (Cells zs).toArray 3)) (some ⟨w.heap.size, 0, none⟩) zs.length zs.length zs := by
  refine ⟨rfl, Nat.le_refl _, by omega, by omega, hr, fun hn => ⟨_, rfl, by simp, fun j hj => ?_⟩, fun e => by cases e⟩
  rw [show (⟨w.heap.size, 0, none⟩ : Addr).add j = ⟨w.heap.size, j, none⟩ from by rw [Addr.add_lit, Nat.zero_add], World.cell?_alloc_new]
  rw [← Cells_get zs j hj]; simp
/-- The own slice as a row: what is stored into. -/
theorem Own.asRow {w : World} {B : Nat} {v : Value} {zs : List Int} (h : Own w B v zs) (hn : 0 < zs.length) : ∃ g c, v = .slice (some ⟨g, 0, none⟩) zs.length c ∧ B ≤ g ∧ zs.length ≤ c ∧ c ≤ 9223372036854775807 ∧ Row w g zs.length (el zs) := by
  rcases h.row.2 with ⟨_, h0⟩ | ⟨g, cap, cur, rfl, hb, hg, hnc, hm, hsz, htk⟩
  · omega
  · refine ⟨g, cap, rfl, hb, hnc, hm, fun j hj => ?_, fun j => ?_, (h.row.lt g rfl).2⟩
    · have := h.row.cells rfl j _ (Cells_get zs j hj)
      rwa [show (⟨g, 0, none⟩ : Addr).add j = ⟨g, j, none⟩ from by rw [Addr.add_lit, Nat.zero_add]] at this
    · simp [World.frozen?, hg]
theorem Own.asRowF {w : World} {B : Nat} {v : Value} {n : Nat} {F : Nat → Int} (h : Own w B v (fl n F)) (hn : 0 < n) : ∃ g c, v = .slice (some ⟨g, 0, none⟩) n c ∧ B ≤ g ∧ n ≤ c ∧ c ≤ 9223372036854775807 ∧ Row w g n F := by
  obtain ⟨g, c, hv, h1, h2, h3, h4⟩ := h.asRow (by rw [fl_length]; exact hn)
  rw [fl_length] at hv h2 h4
  exact ⟨g, c, hv, h1, h2, h3, h4.congr fun k hk => el_fl F hk⟩
theorem Own.setCell {w : World} {B : Nat} {v : Value} {zs : List Int} (h : Own w B v zs) {p : Addr} (hp : p.block < B) (u : Value) : Own (w.setCell p u) B v zs :=
  ⟨h.row.kept (row := some p.block) ⟨rfl, rfl, rfl, by simp [World.setCell], fun k hk hne => Below.heap_setCell w p u k (by intro e; exact hne (by rw [e]))⟩ (by
    rcases hv : v.ownBlock with _ | k
    · exact .inl rfl
    · refine .inr ?_
      intro e
      have := (h.row.lt k hv).1
      injection e with e
      omega), h.rng, h.few⟩
end Go.Proofs.Ytfhikdgdckfalaa

/- A cascade of reservoirs as a plain function; nothing is lost in it. No program in sight. -/
namespace Go.Proofs.Ytfhikdgdckfalaa
set_option linter.unusedVariables false

/-- What the reservoirs hold at first, and a step later. -/
def H0 (i : Nat) : Int := if i = 0 then 1073741824 else 0
def hs (k : Int) (H : Nat → Int) (i : Nat) : Int := H i - H i / k + (if i = 0 then 0 else H (i - 1) / k)
def Hs (k : Int) : Nat → Nat → Int
  | 0 => H0
  | s + 1 => hs k (Hs k s)
def sumF (H : Nat → Int) : Nat → Int
  | 0 => 0
  | n + 1 => sumF H n + H n
theorem sumF_congr {F G : Nat → Int} {n : Nat} (h : ∀ k, k < n → F k = G k) : sumF F n = sumF G n := by
  induction n with
  | zero => rfl
  | succ n ih => rw [sumF, sumF, ih (fun k hk => h k (by omega)), h n (by omega)]
theorem sumF_nonneg {F : Nat → Int} {n : Nat} (h : ∀ k, k < n → 0 ≤ F k) : 0 ≤ sumF F n := by
  induction n with
  | zero => exact Int.le_refl _
  | succ n ih => have := ih (fun k hk => h k (by omega)); have := h n (by omega); rw [sumF]; omega
theorem sumF_mono {F : Nat → Int} (h : ∀ k, 0 ≤ F k) {m n : Nat} (hmn : m ≤ n) : sumF F m ≤ sumF F n := by
  induction n with
  | zero => rw [show m = 0 by omega]; exact Int.le_refl _
  | succ n ih =>
    by_cases hm : m = n + 1
    · subst hm; exact Int.le_refl _
    · have := ih (by omega); have := h n; rw [sumF]; omega
theorem sumF_elem {F : Nat → Int} (h : ∀ k, 0 ≤ F k) {i n : Nat} (hi : i < n) : F i ≤ sumF F n := by
  have h1 := sumF_mono h (show i + 1 ≤ n by omega)
  rw [sumF] at h1
  have := sumF_nonneg (F := F) (n := i) (fun k _ => h k)
  omega
theorem div_bd {a k : Int} (ha : 0 ≤ a) (hk : 1 ≤ k) : 0 ≤ a / k ∧ a / k ≤ a :=
  ⟨Int.ediv_nonneg ha (by omega), Int.ediv_le_self _ ha⟩
theorem hs_nonneg {k : Int} (hk : 1 ≤ k) {H : Nat → Int} (h : ∀ i, 0 ≤ H i) (i : Nat) : 0 ≤ hs k H i := by
  have h1 := div_bd (h i) hk
  have h2 := div_bd (h (i - 1)) hk
  unfold hs; split <;> omega
theorem Hs_nonneg {k : Int} (hk : 1 ≤ k) (s i : Nat) : 0 ≤ Hs k s i := by
  induction s generalizing i with
  | zero => show 0 ≤ H0 i; unfold H0; split <;> omega
  | succ s ih => exact hs_nonneg hk ih i
theorem sum_hs (k : Int) (H : Nat → Int) (n : Nat) : sumF (hs k H) (n + 1) = sumF H (n + 1) - H n / k := by
  induction n with
  | zero => simp [sumF, hs]
  | succ n ih =>
    rw [sumF, ih, sumF, sumF]
    have : hs k H (n + 1) = H (n + 1) - H (n + 1) / k + H n / k := by unfold hs; simp
    rw [this, sumF]; omega
theorem sum_H0 (n : Nat) : sumF H0 (n + 1) = 1073741824 := by
  induction n with
  | zero => rfl
  | succ n ih => rw [sumF, ih]; simp [H0]
theorem sum_Hs_le {k : Int} (hk : 1 ≤ k) (s n : Nat) : sumF (Hs k s) (n + 1) ≤ 1073741824 := by
  induction s with
  | zero => exact Int.le_of_eq (sum_H0 n)
  | succ s ih =>
    have h1 : sumF (Hs k (s + 1)) (n + 1) = sumF (Hs k s) (n + 1) - Hs k s n / k := sum_hs k (Hs k s) n
    have h2 := div_bd (Hs_nonneg hk s n) hk
    omega
theorem Hs_le {k : Int} (hk : 1 ≤ k) (s i : Nat) : Hs k s i ≤ 1073741824 :=
  Int.le_trans (sumF_elem (Hs_nonneg hk s) (Nat.lt_succ_self i)) (sum_Hs_le hk s i)

/-- What leaves the last of n + 1 reservoirs at step t. -/
def outF (k : Int) (m : Nat) (t : Nat) : Int := Hs k t m / k
theorem outF_bd {k : Int} (hk : 1 ≤ k) (m t : Nat) : 0 ≤ outF k m t ∧ outF k m t ≤ 1073741824 := by
  have h1 := div_bd (Hs_nonneg hk t m) hk
  have h2 := Hs_le hk t m
  unfold outF; omega
theorem sum_out (k : Int) (m s : Nat) : sumF (outF k m) s + sumF (Hs k s) (m + 1) = 1073741824 := by
  induction s with
  | zero => rw [sumF, Int.zero_add]; exact sum_H0 m
  | succ s ih =>
    have h1 : sumF (Hs k (s + 1)) (m + 1) = sumF (Hs k s) (m + 1) - Hs k s m / k := sum_hs k (Hs k s) m
    rw [sumF, h1]; unfold outF at *; omega
/-- The weights of a cascade of m + 1 reservoirs, s + 1 steps: what is left at the end is in the last one. -/
def casF (k : Int) (m s : Nat) (t : Nat) : Int := if t = s then outF k m t + sumF (Hs k (s + 1)) (m + 1) else outF k m t
def casL (k : Int) (m s : Nat) : List Int := fl (s + 1) (casF k m s)
theorem casF_bd {k : Int} (hk : 1 ≤ k) (m s t : Nat) : 0 ≤ casF k m s t ∧ casF k m s t ≤ 2147483648 := by
  have h1 := outF_bd hk m t
  have h2 := sum_Hs_le hk (s + 1) m
  have h3 := sumF_nonneg (F := Hs k (s + 1)) (n := m + 1) (fun i _ => Hs_nonneg hk _ i)
  unfold casF; split <;> omega
theorem casF_lt {k : Int} {m s t : Nat} (h : t ≠ s) : casF k m s t = outF k m t := if_neg h
theorem sum_cas (k : Int) (m s : Nat) : sumF (casF k m s) (s + 1) = 1073741824 := by
  rw [sumF, sumF_congr (G := outF k m) (fun t ht => casF_lt (by omega)), casF, if_pos rfl]
  have := sum_out k m (s + 1)
  rw [sumF] at this
  omega
def casOk (n k s : Int) : Prop := 1 ≤ n ∧ n ≤ 10 ∧ 1 ≤ k ∧ k ≤ 1000 ∧ 1 ≤ s ∧ s ≤ 1000
instance (n k s : Int) : Decidable (casOk n k s) := by unfold casOk; infer_instance
/-- The list, and the error number. -/
def CasV (n k s : Int) : List Int × Int := if casOk n k s then (casL k (n - 1).toNat (s - 1).toNat, 0) else ([], 2)

/-- What the reservoirs hold within a step, when the ones above i have been emptied (i counts down to 0; d: how many are done of m + 1). -/
def midF (k : Int) (H : Nat → Int) (i j : Nat) : Int := if j < i then H j else if j = i then H j - H j / k else hs k H j
theorem midF_done (k : Int) (H : Nat → Int) (j : Nat) : midF k H 0 j = hs k H j := by
  unfold midF
  rw [if_neg (by omega)]
  split
  · rename_i h; subst h; unfold hs; simp
  · rfl
end Go.Proofs.Ytfhikdgdckfalaa

/- Looking through a list for a number outside a range; sums. The part that names no function of hydrograph. -/
namespace Go.Proofs.Ytfhikdgdckfalaa
open Go.RowKit
set_option linter.unusedVariables false

/-- Whether z lies outside 0 .. m. -/
def badB (m z : Int) : Bool := decide (z < 0) || decide (m < z)
def anyBad (m : Int) (zs : List Int) : Bool := zs.any (badB m)
def inB (m : Int) (zs : List Int) : Bool := !anyBad m zs
theorem any_take {p : Int → Bool} {zs : List Int} (h : ∀ j, j < zs.length → p (el zs j) = false) : zs.any p = false := by
  rw [List.any_eq_false]
  intro x hx
  obtain ⟨i, hi, rfl⟩ := List.getElem_of_mem hx
  have := h i hi
  unfold el at this
  rw [List.getD_eq_getElem?_getD, List.getElem?_eq_getElem hi] at this
  simpa using this
theorem any_at {p : Int → Bool} {zs : List Int} {k : Nat} (hk : k < zs.length) (h : p (el zs k) = true) : zs.any p = true :=
  List.any_eq_true.2 ⟨_, el_mem hk, h⟩
theorem inB_iff {m : Int} {zs : List Int} : inB m zs = true ↔ ∀ z ∈ zs, 0 ≤ z ∧ z ≤ m := by
  unfold inB anyBad
  rw [Bool.not_eq_true', List.any_eq_false]
  constructor
  · intro h z hz
    have := h z hz
    unfold badB at this
    simp at this
    omega
  · intro h z hz
    have := h z hz
    unfold badB
    simp
    omega
theorem inB_el {m : Int} {zs : List Int} (h : inB m zs = true) {k : Nat} (hk : k < zs.length) : 0 ≤ el zs k ∧ el zs k ≤ m := inB_iff.1 h _ (el_mem hk)

/-- A place where p holds, or -1. -/
def Found (p : Int → Bool) (zs : List Int) (w : World) (e : Ending) (w' : World) : Prop := ∃ r : Int, e = .returned (.int .i64 r) ∧ w = w' ∧ -1 ≤ r ∧ r ≤ 17592186044416 ∧ zs.any p = decide (0 ≤ r)

theorem in_step {m : Int} {zs : List Int} {k : Nat} (h : ∀ j, j < k → badB m (el zs j) = false) (h0 : ¬ el zs k < 0) (h1 : ¬ m < el zs k) : ∀ j, j < k + 1 → badB m (el zs j) = false := fun j hj => by
  by_cases hjk : j = k
  · subst hjk; unfold badB; rw [decide_eq_false h0, decide_eq_false h1]; rfl
  · exact h j (by omega)
theorem in_all {m : Int} {zs : List Int} (h : ∀ j, j < zs.length → badB m (el zs j) = false) : inB m zs = true := by
  unfold inB anyBad; rw [any_take h]; rfl
theorem in_low {m : Int} {zs : List Int} {k : Nat} (hk : k < zs.length) (h : el zs k < 0) : inB m zs = false := by
  unfold inB anyBad; rw [any_at hk (by unfold badB; rw [decide_eq_true h]; rfl)]; rfl
theorem in_high {m : Int} {zs : List Int} {k : Nat} (hk : k < zs.length) (h : m < el zs k) : inB m zs = false := by
  unfold inB anyBad; rw [any_at hk (by unfold badB; rw [decide_eq_true h, Bool.or_true])]; rfl

def sumL (zs : List Int) : Int := sumF (el zs) zs.length
theorem sumF_bd {F : Nat → Int} {n : Nat} {m : Int} (h : ∀ k, k < n → 0 ≤ F k ∧ F k ≤ m) : 0 ≤ sumF F n ∧ sumF F n ≤ n * m := by
  induction n with
  | zero => simp [sumF]
  | succ n ih =>
    have h1 := ih (fun k hk => h k (by omega))
    have h2 := h n (by omega)
    rw [sumF, Int.natCast_add, Int.add_mul]
    omega
theorem inB_mono {m m' : Int} {zs : List Int} (h : inB m zs = true) (hm : m ≤ m') : inB m' zs = true :=
  inB_iff.2 fun z hz => ⟨(inB_iff.1 h z hz).1, Int.le_trans (inB_iff.1 h z hz).2 hm⟩
end Go.Proofs.Ytfhikdgdckfalaa
