/- Depth of the program, at a valid table and a place within it. -/
import Derived.Test.YtfhikdgdckfalaaMB05
import Derived.Test.YtfhikdgdckfalaaMB07
import Derived.Test.YtfhikdgdckfalaaMB01
import Derived.Test.YtfhikdgdckfalaaMB04
import Derived.Maps.AppendAt

namespace Go.Proofs.Ytfhikdgdckfalaa
open Go.RowKit
set_option linter.unusedVariables false

set_option maxRecDepth 100000 in
set_option maxHeartbeats 4000000 in
theorem Depth_calls {A0 A1 A2 : Option Addr} {n0 c0 n1 c1 n2 c2 : Nat} {ds ps : List Int} {rows : List (List Int)} (x y : Int) (a b : Nat) (w : World) (h0 : Ints w A0 n0 c0 ds) (h1 : Ints w A1 n1 c1 ps) (h2 : Tab w A2 n2 c2 rows) (ok : VOk ds ps rows)
    (hd : depV ds ps rows x y = ((a : Int), (b : Int), true)) (ha : a < 1152921504606846976) (hb : 0 < b) (hb' : (b : Int) ≤ 9223372036854775807) :
    Calls Try.prog 81 #[tabA A0 n0 c0 A1 n1 c1 A2 n2 c2, .int .i64 x, .int .i64 y] w (SpanR w (quoV a b false) (quoV a b true)) := by
  obtain ⟨W0, hW0⟩ : ∃ W0, (w.alloc (tabO A0 n0 c0 A1 n1 c1 A2 n2 c2)).alloc (.cells #[.int .i64 0, .int .i64 0] 54) = W0 := ⟨_, rfl⟩
  have hb1 : Below w.heap.size w (w.alloc (tabO A0 n0 c0 A1 n1 c1 A2 n2 c2)) := (Below.refl _ _).alloc (Nat.le_refl _) _
  have hb0 : Below w.heap.size w W0 := by rw [← hW0]; exact hb1.alloc hb1.size _
  have x1 : HBox (w.alloc (tabO A0 n0 c0 A1 n1 c1 A2 n2 c2)) w.heap.size (.slice A0 n0 c0) (.slice A1 n1 c1) (.slice A2 n2 c2) := HBox.made _ _ _ _ _
  have x0 : HBox W0 w.heap.size (.slice A0 n0 c0) (.slice A1 n1 c1) (.slice A2 n2 c2) := by rw [← hW0]; exact x1.below ((Below.refl _ _).alloc (Nat.le_refl _) _) x1.lt
  have t0 : TBox W0 (w.heap.size + 1) (.int .i64 0) (.int .i64 0) := by
    have := TBox.made (w.alloc (tabO A0 n0 c0 A1 n1 c1 A2 n2 c2)) (.int .i64 0) (.int .i64 0) 54
    rw [hW0, World.size_alloc] at this
    exact this
  have X0 := Lib.hid x0
  have T0 := Lib.hid t0
  obtain ⟨k0, k1, k2⟩ : W0.cell? ⟨w.heap.size, 0, none⟩ = some (.slice A0 n0 c0) ∧ W0.cell? ⟨w.heap.size, 1, none⟩ = some (.slice A1 n1 c1) ∧ W0.cell? ⟨w.heap.size, 2, none⟩ = some (.slice A2 n2 c2) := ⟨x0.c0, x0.c1, x0.c2⟩
  have F1 := Lib.hid (Valid_calls W0 (h0.below hb0) (h1.below hb0) (h2.below hb0))
  have F2 := Lib.hid (fun W (B : Below w.heap.size w W) => by have := depth_calls x y W (h0.below B) (h1.below B) (h2.below B) ok.tok; rw [hd] at this; exact this)
  have F3 := Lib.hid (fun W => span_calls a b ha hb hb' W)
  have OK := Lib.hid ok
  have B0 := Lib.hid hb0
  clear x0 x1 t0
  clear h0 h1 h2 ok hd hb1 hb0
  go_enter Try.func81, Try.ntmps81
  go_wp2_with fail
  refine (F1.out).mono ?_
  rintro e w1 ⟨v, rfl, b1, hv⟩
  obtain rfl : v = true := hv.2 OK.out
  have B1 := Lib.hid (below_then B0.out b1 B0.out.size)
  have X1 := Lib.hid (X0.out.below b1 X0.out.lt)
  have T1 := Lib.hid (T0.out.below b1 T0.out.lt)
  obtain ⟨m0, m1, m2⟩ : w1.cell? ⟨w.heap.size, 0, none⟩ = some (.slice A0 n0 c0) ∧ w1.cell? ⟨w.heap.size, 1, none⟩ = some (.slice A1 n1 c1) ∧ w1.cell? ⟨w.heap.size, 2, none⟩ = some (.slice A2 n2 c2) := ⟨X1.out.c0, X1.out.c1, X1.out.c2⟩
  clear b1 hv k0 k1 k2
  go_wp2_with fail
  refine (F2.out _ B1.out).mono ?_
  rintro e w2 ⟨rfl, b2⟩
  have B2 := Lib.hid (below_then B1.out b2 B1.out.size)
  have T2 := Lib.hid (T1.out.below b2 T1.out.lt)
  clear b2 m0 m1 m2
  go_wp2_with fail
  refine (F3.out _).mono ?_
  rintro e w3 ⟨rfl, b3⟩
  have t3 := T2.out.below b3 T2.out.lt
  have hbw := put2_below (g := w.heap.size + 1) (below_then B2.out b3 B2.out.size) (by omega) (.int .i64 (quoV a b false)) (.int .i64 (quoV a b true))
  have HBW := Lib.hid hbw
  have Q := Lib.hid (t3.put (.int .i64 (quoV a b false)) (.int .i64 (quoV a b true)))
  obtain ⟨c0, c1, f0, f1, gl⟩ := t3.parts
  clear b3 t3 hbw
  go_wp2
  have hbw := HBW.out
  have q := Q.out
  generalize (w3.setCell ⟨w.heap.size + 1, 0, none⟩ (.int .i64 (quoV a b false))).setCell ⟨w.heap.size + 1, 1, none⟩ (.int .i64 (quoV a b true)) = W3 at *
  obtain ⟨q0, q1, -, -, -⟩ := q
  exact bodyPost_ret (v := .tuple #[.agg #[.int .i64 (quoV a b false), .int .i64 (quoV a b true)], .int .i64 0]) (by simp [results, Try.results81, go_sem, q0, q1]) rfl ⟨rfl, hbw⟩

set_option maxRecDepth 100000 in
set_option maxHeartbeats 4000000 in
theorem Depth_none {A0 A1 A2 : Option Addr} {n0 c0 n1 c1 n2 c2 : Nat} {ds ps : List Int} {rows : List (List Int)} (x y : Int) (w : World) (h0 : Ints w A0 n0 c0 ds) (h1 : Ints w A1 n1 c1 ps) (h2 : Tab w A2 n2 c2 rows) (ok : VOk ds ps rows)
    (hd : depV ds ps rows x y = (0, 0, false)) :
    Calls Try.prog 81 #[tabA A0 n0 c0 A1 n1 c1 A2 n2 c2, .int .i64 x, .int .i64 y] w fun e w' => e = .returned (.tuple #[.agg #[.int .i64 0, .int .i64 0], .int .i64 2]) ∧ Below w.heap.size w w' := by
  obtain ⟨W0, hW0⟩ : ∃ W0, (w.alloc (tabO A0 n0 c0 A1 n1 c1 A2 n2 c2)).alloc (.cells #[.int .i64 0, .int .i64 0] 54) = W0 := ⟨_, rfl⟩
  have hb1 : Below w.heap.size w (w.alloc (tabO A0 n0 c0 A1 n1 c1 A2 n2 c2)) := (Below.refl _ _).alloc (Nat.le_refl _) _
  have hb0 : Below w.heap.size w W0 := by rw [← hW0]; exact hb1.alloc hb1.size _
  have x1 : HBox (w.alloc (tabO A0 n0 c0 A1 n1 c1 A2 n2 c2)) w.heap.size (.slice A0 n0 c0) (.slice A1 n1 c1) (.slice A2 n2 c2) := HBox.made _ _ _ _ _
  have x0 : HBox W0 w.heap.size (.slice A0 n0 c0) (.slice A1 n1 c1) (.slice A2 n2 c2) := by rw [← hW0]; exact x1.below ((Below.refl _ _).alloc (Nat.le_refl _) _) x1.lt
  have t0 : TBox W0 (w.heap.size + 1) (.int .i64 0) (.int .i64 0) := by
    have := TBox.made (w.alloc (tabO A0 n0 c0 A1 n1 c1 A2 n2 c2)) (.int .i64 0) (.int .i64 0) 54
    rw [hW0, World.size_alloc] at this
    exact this
  have X0 := Lib.hid x0
  have T0 := Lib.hid t0
  obtain ⟨k0, k1, k2⟩ : W0.cell? ⟨w.heap.size, 0, none⟩ = some (.slice A0 n0 c0) ∧ W0.cell? ⟨w.heap.size, 1, none⟩ = some (.slice A1 n1 c1) ∧ W0.cell? ⟨w.heap.size, 2, none⟩ = some (.slice A2 n2 c2) := ⟨x0.c0, x0.c1, x0.c2⟩
  have F1 := Lib.hid (Valid_calls W0 (h0.below hb0) (h1.below hb0) (h2.below hb0))
  have F2 := Lib.hid (fun W (B : Below w.heap.size w W) => by have := depth_calls x y W (h0.below B) (h1.below B) (h2.below B) ok.tok; rw [hd] at this; exact this)
  have OK := Lib.hid ok
  have B0 := Lib.hid hb0
  clear x0 x1 t0
  clear h0 h1 h2 ok hd hb1 hb0
  go_enter Try.func81, Try.ntmps81
  go_wp2_with fail
  refine (F1.out).mono ?_
  rintro e w1 ⟨v, rfl, b1, hv⟩
  obtain rfl : v = true := hv.2 OK.out
  have B1 := Lib.hid (below_then B0.out b1 B0.out.size)
  have X1 := Lib.hid (X0.out.below b1 X0.out.lt)
  have T1 := Lib.hid (T0.out.below b1 T0.out.lt)
  obtain ⟨m0, m1, m2⟩ : w1.cell? ⟨w.heap.size, 0, none⟩ = some (.slice A0 n0 c0) ∧ w1.cell? ⟨w.heap.size, 1, none⟩ = some (.slice A1 n1 c1) ∧ w1.cell? ⟨w.heap.size, 2, none⟩ = some (.slice A2 n2 c2) := ⟨X1.out.c0, X1.out.c1, X1.out.c2⟩
  clear b1 hv k0 k1 k2
  go_wp2_with fail
  refine (F2.out _ B1.out).mono ?_
  rintro e w2 ⟨rfl, b2⟩
  have B2 := Lib.hid (below_then B1.out b2 B1.out.size)
  have T2 := Lib.hid (T1.out.below b2 T1.out.lt)
  clear b2 m0 m1 m2
  have t3 := T2.out
  have hbw := put2_below (g := w.heap.size + 1) B2.out (by omega) (.int .i64 0) (.int .i64 0)
  have HBW := Lib.hid hbw
  have Q := Lib.hid (t3.put (.int .i64 0) (.int .i64 0))
  obtain ⟨c0, c1, f0, f1, gl⟩ := t3.parts
  clear t3 hbw
  go_wp2
  have hbw := HBW.out
  have q := Q.out
  generalize (w2.setCell ⟨w.heap.size + 1, 0, none⟩ (.int .i64 0)).setCell ⟨w.heap.size + 1, 1, none⟩ (.int .i64 0) = W3 at *
  obtain ⟨q0, q1, -, -, -⟩ := q
  exact bodyPost_ret (v := .tuple #[.agg #[.int .i64 0, .int .i64 0], .int .i64 2]) (by simp [results, Try.results81, go_sem, q0, q1]) rfl ⟨rfl, hbw⟩
end Go.Proofs.Ytfhikdgdckfalaa

/- A slice of rows of integers that the call itself makes and appends to. -/
namespace Go.Proofs.Ytfhikdgdckfalaa
open Go.RowKit
set_option linter.unusedVariables false

theorem info_row : (Try.prog.info? 23).map (fun i => (i.zero, i.size, i.bytes)) = some (some (.slice none 0 0), 1, 24) := by kernel_rfl
theorem tl_append_lt {ts : List (List Int)} {zs : List Int} {j : Nat} (h : j < ts.length) : tl (ts ++ [zs]) j = tl ts j := by
  unfold tl; rw [List.getD_eq_getElem?_getD, List.getD_eq_getElem?_getD, List.getElem?_append_left h]
theorem tl_append_eq {ts : List (List Int)} {zs : List Int} : tl (ts ++ [zs]) ts.length = zs := by
  unfold tl; rw [List.getD_eq_getElem?_getD, List.getElem?_append_right (Nat.le_refl _)]; simp
theorem grown_of_below {w w' : World} (h : Below w.heap.size w w') (row : Option Nat) : w.grownBy w' row := ⟨h.os, h.tape, h.output, h.size, fun k hk _ => h.block k hk⟩
theorem Own.below {w w' : World} {B : Nat} {v : Value} {zs : List Int} (h : Own w B v zs) (hb : Below w.heap.size w w') : Own w' B v zs := by
  refine ⟨h.row.kept (row := none) (grown_of_below hb none) ?_, h.rng, h.few⟩
  rcases hv : v.ownBlock with _ | k
  · exact .inl rfl
  · exact .inr (by simp)

/-- The slice value v is the call's own (from block B on), and reads as the rows ts; their blocks are others. -/
structure OwnT (w : World) (B : Nat) (v : Value) (ts : List (List Int)) : Prop where
  row : ∃ cs, w.ownsRow B 23 1 v ts.length cs ∧ cs.length = ts.length ∧ ∀ j, j < ts.length → ∃ A n c, cs[j]? = some (.slice A n c) ∧ Ints w A n c (tl ts j) ∧ (0 < n → ∀ ad, A = some ad → v.ownBlock ≠ some ad.block)
  few : ts.length ≤ 1000
theorem OwnT.nil (w : World) (B : Nat) : OwnT w B (.slice none 0 0) [] := ⟨⟨[], World.ownsRow_nil _ _ _ _, rfl, fun j hj => absurd hj (by simp)⟩, by simp⟩
theorem OwnT.below {w w' : World} {B : Nat} {v : Value} {ts : List (List Int)} (h : OwnT w B v ts) (hb : Below w.heap.size w w') : OwnT w' B v ts := by
  obtain ⟨cs, h1, h2, h3⟩ := h.row
  refine ⟨⟨cs, h1.kept (row := none) (grown_of_below hb none) ?_, h2, fun j hj => ?_⟩, h.few⟩
  · rcases hv : v.ownBlock with _ | k
    · exact .inl rfl
    · exact .inr (by simp)
  · obtain ⟨A, n, c, e, hi, hA⟩ := h3 j hj
    exact ⟨A, n, c, e, hi.below hb, hA⟩
theorem OwnT.lt {w : World} {B : Nat} {v : Value} {ts : List (List Int)} (h : OwnT w B v ts) {k : Nat} (hk : v.ownBlock = some k) : B ≤ k ∧ k < w.heap.size := by
  obtain ⟨cs, h1, _⟩ := h.row
  exact h1.lt k hk
theorem OwnT.fresh {w : World} {B : Nat} {v : Value} {ts : List (List Int)} (h : OwnT w B v ts) {A : Option Addr} {n : Nat} (hA : ∀ ad, A = some ad → w.heap.size ≤ ad.block) : 0 < n → ∀ ad, A = some ad → v.ownBlock ≠ some ad.block := fun _ ad e hv => by
  have := (h.lt hv).2
  have := hA ad e
  omega
/-- make([][]int, 0, n): nothing yet, with room. -/
theorem make_rows (n : Nat) (h : n ≤ 1000) (w : World) : (Instr.makeSlice 35 (.int .i64 0) (.int .i64 (n : Int))).run Try.prog w = .ok (.slice (some ⟨w.heap.size, 0, none⟩) 0 n) (w.alloc (.cells (madeCells #[.slice none 0 0] n) 23)) := by
  obtain ⟨i0, hi, hz0, hz1, hz2⟩ := info_parts info_row
  have hr := run_make (P := Try.prog) w 35 23 i0 (.slice none 0 0) Try.underlying35 hi hz0 .i64 .i64 0 n (by omega) (by omega) (by rw [hz2]; omega) (by omega)
  simp only [Int.toNat_natCast, hz1, Nat.mul_one] at hr
  exact hr
theorem OwnT.room (w : World) (B n : Nat) (hB : B ≤ w.heap.size) (h : n ≤ 1000) : OwnT (w.alloc (.cells (madeCells #[.slice none 0 0] n) 23)) B (.slice (some ⟨w.heap.size, 0, none⟩) 0 n) [] :=
  ⟨⟨[], World.ownsRow_made w _ n hB (by unfold maxLen; omega) (by rw [size_madeCells, Nat.mul_one]), rfl, fun j hj => absurd hj (by simp)⟩, by simp⟩
theorem OwnT.tab {w : World} {B : Nat} {v : Value} {ts : List (List Int)} (h : OwnT w B v ts) : ∃ A n c, v = .slice A n c ∧ Tab w A n c ts ∧ ∀ ad, A = some ad → B ≤ ad.block := by
  obtain ⟨cs, h1, h2, h3⟩ := h.row
  have hf := h.few
  rcases h1.2 with ⟨rfl, hn⟩ | ⟨g, cap, cur, rfl, hb, hg, hnc, hm, hsz, htk⟩
  · have : ts = [] := List.eq_nil_of_length_eq_zero hn
    subst this
    exact ⟨none, 0, 0, rfl, Tab.nil w, fun ad e => by cases e⟩
  · refine ⟨some ⟨g, 0, none⟩, ts.length, cap, rfl, ⟨rfl, hnc, hm, by omega, fun hn => ⟨_, rfl, (h1.lt g rfl).2, fun j hj => ?_⟩, fun e => by cases e⟩, fun ad e => by injection e with e; subst e; exact hb⟩
    obtain ⟨A, n, c, e, hi, _⟩ := h3 j hj
    exact ⟨A, n, c, h1.cells rfl j _ e, hi⟩

theorem wpList_append_row {ops : Array Oper} {rest : List Oper} {o : Oper} {a : Act} {Q : Exit → Act → World → Prop} (w : World) (B : Nat) (v : Value) (ts : List (List Int)) (A : Option Addr) (n c : Nat) (zs : List Int)
    (hgd : o.guard = none) (s y : Operand) (ho : o.op = .call { callee := .builtin .append, args := #[s, y], argTypes := #[35, 35] })
    (hs : a.eval s = v) (hx : a.eval y = .slice (some ⟨w.heap.size, 0, none⟩) 1 1) (hown : OwnT w B v ts) (hi : Ints w A n c zs) (hA : 0 < n → ∀ ad, A = some ad → v.ownBlock ≠ some ad.block) (hB : B ≤ w.heap.size) (hf : ts.length < 1000)
    (h : ∀ v' w', OwnT w' B v' (ts ++ [zs]) → Below B w w' → wpList Try.prog ops Q rest (a.put o.dst v') w') : wpList Try.prog ops Q (o :: rest) a (w.alloc (.cells #[.slice A n c] 23)) := by
  obtain ⟨i0, hi0, hz0, hz1, hz2⟩ := info_parts info_row
  obtain ⟨cs, h1, h2, h3⟩ := hown.row
  refine wpList_append_own_at _ hgd s y 35 ho B 23 i0 (.slice none 0 0) 1 24 Try.underlying35 hi0 hz0 hz1 hz2 rfl (by decide) v ts.length cs hs (h1.alloc _) ⟨w.heap.size, 0, none⟩ 1 1 [.slice A n c] hx rfl ?_ ?_ ?_ ?_ ?_ ?_
  · intro j u hj
    match j, hj with
    | 0, hj => simp at hj; subst hj; simp [Addr.add]
  · intro u hu; simp at hu; subst hu; rfl
  · unfold maxLen; omega
  · omega
  · simp; omega
  · intro v' w' ho' hg _ hat
    have hbel : Below B w w' := ((Below.refl B w).alloc hB _).grown hg (by simp; omega) (fun k hk => ((h1.alloc (.cells #[.slice A n c] 23)).lt k hk).1)
    have keep : ∀ (A' : Option Addr) (n' c' : Nat) (z : List Int), Ints w A' n' c' z → (0 < n' → ∀ ad, A' = some ad → v.ownBlock ≠ some ad.block) → Ints w' A' n' c' z ∧ (0 < n' → ∀ ad, A' = some ad → v'.ownBlock ≠ some ad.block) := by
      intro A' n' c' z hz hne
      by_cases hn0 : 0 < n'
      · obtain ⟨ad, e, hlt, hc⟩ := hz.mem hn0
        subst e
        refine ⟨hz.keep (by have := hg.size; simp at this; omega) fun ad' j e hj => ?_, fun _ ad' e hv => ?_⟩
        · obtain rfl := Option.some.inj e
          have hbk := hg.block ad.block (by simp; omega) (fun e => hne hn0 ad rfl e.symm)
          have : (w.alloc (.cells #[.slice A n c] 23)).cell? (ad.add j) = w.cell? (ad.add j) := World.cell?_alloc_lt _ _ _ (by rw [block_of_add]; exact hlt)
          rw [← this]
          exact World.cell?_of_block (by rw [block_of_add]; exact hbk)
        · obtain rfl := Option.some.inj e
          rcases hat with e | e
          · exact hne hn0 ad rfl (by rw [← e]; exact hv)
          · rw [e] at hv
            injection hv with hv
            simp at hv
            omega
      · have h0 : n' = 0 := by omega
        subst h0
        exact ⟨⟨hz.len, hz.cap, hz.max, hz.few, hz.rng, fun h => absurd h (by omega), hz.nl⟩, fun h => absurd h (by omega)⟩
    have hl : (ts ++ [zs]).length = ts.length + 1 := by simp
    refine h v' w' ⟨⟨cs ++ [.slice A n c], by rw [hl]; exact ho', by simp [h2], fun j hj => ?_⟩, by rw [hl]; omega⟩ hbel
    rw [hl] at hj
    by_cases hjl : j < ts.length
    · obtain ⟨A', n', c', e, hi', hA'⟩ := h3 j hjl
      obtain ⟨k1, k2⟩ := keep A' n' c' _ hi' hA'
      exact ⟨A', n', c', by rw [List.getElem?_append_left (by omega)]; exact e, by rw [tl_append_lt hjl]; exact k1, k2⟩
    · obtain rfl : j = ts.length := by omega
      obtain ⟨k1, k2⟩ := keep A n c zs hi hA
      exact ⟨A, n, c, by rw [List.getElem?_append_right (by omega), h2]; simp, by rw [tl_append_eq]; exact k1, k2⟩
end Go.Proofs.Ytfhikdgdckfalaa

/- Appends of one integer that touch the slice's own block alone, or make a new one. -/
namespace Go.Proofs.Ytfhikdgdckfalaa
open Go.RowKit
set_option linter.unusedVariables false

/-- From w to w' only v's own block was written; v' lies there or in a new block. -/
structure GroI (w w' : World) (v v' : Value) : Prop where
  g : w.grownBy w' v.ownBlock
  o : v'.ownBlock = v.ownBlock ∨ ∃ k, v'.ownBlock = some k ∧ w.heap.size ≤ k
theorem GroI.below {w w' : World} {v v' : Value} (h : GroI w w' v v') {B : Nat} {zs : List Int} (ho : Own w B v zs) (hB : B ≤ w.heap.size) : Below B w w' :=
  ⟨h.g.os, h.g.tape, h.g.output, h.g.size, fun k hk => h.g.block k (Nat.lt_of_lt_of_le hk hB) (fun e => by have := (ho.row.lt k e.symm).1; omega)⟩
/-- What lies in another block stays. -/
theorem GroI.cell {w w' : World} {v v' : Value} (h : GroI w w' v v') {p : Addr} (hp : p.block < w.heap.size) (hv : v.ownBlock ≠ some p.block) : w'.cell? p = w.cell? p :=
  World.cell?_of_block (h.g.block p.block hp (fun e => hv e.symm))
theorem wpList_append_intG {ops : Array Oper} {rest : List Oper} {o : Oper} {a : Act} {Q : Exit → Act → World → Prop} (w : World) (B : Nat) (v : Value) (zs : List Int) (x : Int)
    (hgd : o.guard = none) (s y : Operand) (ho : o.op = .call { callee := .builtin .append, args := #[s, y], argTypes := #[23, 23] })
    (hs : a.eval s = v) (hx : a.eval y = .slice (some ⟨w.heap.size, 0, none⟩) 1 1) (hown : Own w B v zs) (hB : B ≤ w.heap.size) (hf : zs.length < 17592186044416) (hr : -9223372036854775808 ≤ x ∧ x ≤ 9223372036854775807)
    (h : ∀ v' w', Own w' B v' (zs ++ [x]) → GroI w w' v v' → wpList Try.prog ops Q rest (a.put o.dst v') w') : wpList Try.prog ops Q (o :: rest) a (w.alloc (.cells #[.int .i64 x] 3)) := by
  obtain ⟨i0, hi, hz0, hz1, hz2⟩ := info_parts info_int
  refine wpList_append_own_at _ hgd s y 23 ho B 3 i0 (.int .i64 0) 1 8 Try.underlying23 hi hz0 hz1 hz2 rfl (by decide) v zs.length (Cells zs) hs (hown.row.alloc _) ⟨w.heap.size, 0, none⟩ 1 1 [.int .i64 x] hx rfl ?_ ?_ ?_ ?_ ?_ ?_
  · intro j u hj
    match j, hj with
    | 0, hj => simp at hj; subst hj; simp [Addr.add]
  · intro u hu; simp at hu; subst hu; rfl
  · unfold maxLen; omega
  · omega
  · simp; omega
  · intro v' w' ho' hg _ hat
    refine h v' w' ⟨?_, ?_, ?_⟩ ⟨⟨hg.os, hg.tape, hg.output, Nat.le_trans (by simp) hg.size, fun k hk hne => ?_⟩, ?_⟩
    · rw [Cells_snoc, List.length_append]; exact ho'
    · intro z hz
      rcases List.mem_append.1 hz with hz | hz
      · exact hown.rng z hz
      · rw [List.mem_singleton] at hz; subst hz; exact hr
    · simp; omega
    · rw [hg.block k (by simp; omega) hne]
      exact ((Below.refl w.heap.size w).alloc (Nat.le_refl _) _).block k hk
    · rcases hat with e | e
      · exact .inl e
      · exact .inr ⟨_, e, by simp⟩
end Go.Proofs.Ytfhikdgdckfalaa
