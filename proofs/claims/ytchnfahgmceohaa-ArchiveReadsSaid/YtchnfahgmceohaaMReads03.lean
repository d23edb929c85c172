/- Appends that touch the slice's own block alone, or make a new one. -/
import Derived.Test.YtchnfahgmceohaaMReads01
import Derived.Maps.AppendAt
import Derived.Test.YtchnfahgmceohaaMReads02
import Derived.Test.YtchnfahgmceohaaProg
import Derived.WalkKit
import Derived.WalkLawsBesides
import Derived.IntWalk

namespace Go.Proofs.Ytchnfahgmceohaa
open Go.RowKit
set_option linter.unusedVariables false

/-- From w to w' only v's own block was written; v' lies there or in a new block. -/
structure Gro (w w' : World) (v v' : Value) : Prop where
  g : w.grownBy w' v.ownBlock
  o : v'.ownBlock = v.ownBlock ∨ ∃ k, v'.ownBlock = some k ∧ w.heap.size ≤ k
theorem Gro.refl (w : World) (v : Value) : Gro w w v v := ⟨⟨rfl, rfl, rfl, Nat.le_refl _, fun _ _ _ => rfl⟩, .inl rfl⟩
theorem Gro.trans {w w1 w2 : World} {v v1 v2 : Value} (h : Gro w w1 v v1) (k : Gro w1 w2 v1 v2) : Gro w w2 v v2 := by
  refine ⟨⟨k.g.os.trans h.g.os, k.g.tape.trans h.g.tape, k.g.output.trans h.g.output, Nat.le_trans h.g.size k.g.size, fun i hi hne => ?_⟩, ?_⟩
  · rw [k.g.block i (Nat.lt_of_lt_of_le hi h.g.size) (by
      rcases h.o with e | ⟨j, e, hj⟩
      · rw [e]; exact hne
      · rw [e]; intro e2; injection e2 with e2; omega)]
    exact h.g.block i hi hne
  · rcases k.o with e | ⟨j, e, hj⟩
    · rw [e]; exact h.o
    · exact .inr ⟨j, e, Nat.le_trans h.g.size hj⟩
theorem Gro.below {w w' : World} {v v' : Value} (h : Gro w w' v v') {B : Nat} {bs : List Int} (ho : OwnB w B v bs) (hB : B ≤ w.heap.size) : Below B w w' :=
  ⟨h.g.os, h.g.tape, h.g.output, h.g.size, fun k hk => h.g.block k (Nat.lt_of_lt_of_le hk hB) (fun e => by have := (ho.row.lt k e.symm).1; omega)⟩
theorem Gro.alloc (w : World) (v : Value) (o : Obj) : Gro w (w.alloc o) v v :=
  ⟨⟨rfl, rfl, rfl, by simp, fun k hk _ => ((Below.refl w.heap.size w).alloc (Nat.le_refl _) o).block k hk⟩, .inl rfl⟩
theorem Gro.of_below {w w' : World} (v : Value) (h : Below w.heap.size w w') : Gro w w' v v := ⟨⟨h.os, h.tape, h.output, h.size, fun k hk _ => h.block k hk⟩, .inl rfl⟩
theorem Byts.gro {w w' : World} {v v' : Value} {A : Option Addr} {n c : Nat} {zs : List Int} (h : Byts w A n c zs) (hg : Gro w w' v v') (hA : 0 < n → ∀ ad, A = some ad → v.ownBlock ≠ some ad.block) : Byts w' A n c zs :=
  ⟨h.len, h.cap, h.max, h.few, h.rng, fun hn => by
    obtain ⟨ad, e, hl, hc⟩ := h.mem hn
    have hbk := hg.g.block ad.block hl (fun e2 => hA hn ad e e2.symm)
    exact ⟨ad, e, Nat.lt_of_lt_of_le hl hg.g.size, fun j hj => (World.cell?_of_block (by rw [block_of_add]; exact hbk)).trans (hc j hj)⟩, h.nl⟩

theorem wpList_append_byteG {ops : Array Oper} {rest : List Oper} {o : Oper} {a : Act} {Q : Exit → Act → World → Prop} (w : World) (B : Nat) (v : Value) (zs : List Int) (x : Int)
    (hgd : o.guard = none) (s y : Operand) (ho : o.op = .call { callee := .builtin .append, args := #[s, y], argTypes := #[25, 25] })
    (hs : a.eval s = v) (hx : a.eval y = .slice (some ⟨w.heap.size, 0, none⟩) 1 1) (hown : OwnB w B v zs) (hB : B ≤ w.heap.size) (hf : zs.length < 17592186044416) (hr : 0 ≤ x ∧ x ≤ 255)
    (h : ∀ v' w', OwnB w' B v' (zs ++ [x]) → Gro w w' v v' → wpList Try.prog ops Q rest (a.put o.dst v') w') : wpList Try.prog ops Q (o :: rest) a (w.alloc (.cells #[.int .u8 x] 5)) := by
  obtain ⟨i0, hi, hz0, hz1, hz2⟩ := info_parts info_byte
  refine wpList_append_own_at _ hgd s y 25 ho B 5 i0 (.int .u8 0) 1 1 Try.underlying25 hi hz0 hz1 hz2 rfl (by decide) v zs.length (BCells zs) hs (hown.row.alloc _) ⟨w.heap.size, 0, none⟩ 1 1 [.int .u8 x] hx rfl ?_ ?_ ?_ ?_ ?_ ?_
  · intro j u hj
    match j, hj with
    | 0, hj => simp at hj; subst hj; simp [Addr.add]
  · intro u hu; simp at hu; subst hu; rfl
  · unfold maxLen; omega
  · omega
  · simp; omega
  · intro v' w' ho' hg _ hat
    refine h v' w' ⟨?_, ?_, ?_⟩ ?_
    · rw [BCells_snoc, List.length_append]; exact ho'
    · intro z hz
      rcases List.mem_append.1 hz with hz | hz
      · exact hown.rng z hz
      · rw [List.mem_singleton] at hz; subst hz; exact hr
    · simp; omega
    · refine (Gro.alloc w v (.cells #[.int .u8 x] 5)).trans ⟨hg, ?_⟩
      rcases hat with e | e
      · exact .inl e
      · exact .inr ⟨_, e, Nat.le_refl _⟩

theorem wpList_append_bytesG {ops : Array Oper} {rest : List Oper} {o : Oper} {a : Act} {Q : Exit → Act → World → Prop} (w : World) (B : Nat) (v : Value) (zs : List Int) (A : Option Addr) (m c : Nat) (ys : List Int)
    (hgd : o.guard = none) (s y : Operand) (ho : o.op = .call { callee := .builtin .append, args := #[s, y], argTypes := #[25, 25] })
    (hs : a.eval s = v) (hx : a.eval y = .slice A m c) (hown : OwnB w B v zs) (hB : B ≤ w.heap.size) (hi : Byts w A m c ys) (hf : zs.length + ys.length ≤ 17592186044416)
    (h : ∀ v' w', OwnB w' B v' (zs ++ ys) → Gro w w' v v' → wpList Try.prog ops Q rest (a.put o.dst v') w') : wpList Try.prog ops Q (o :: rest) a w := by
  obtain ⟨i0, hi0, hz0, hz1, hz2⟩ := info_parts info_byte
  cases A with
  | none =>
    have hc := hi.nl rfl
    have hm : m = 0 := by have := hi.cap; omega
    subst hc hm
    have hy : ys = [] := List.eq_nil_of_length_eq_zero hi.len
    subst hy
    refine wpList_append_own_none hgd s y 25 ho B 5 i0 1 Try.underlying25 hi0 v zs.length (BCells zs) hs hown.row hx (h v w (by rw [List.append_nil]; exact hown) (Gro.refl _ _))
  | some ad =>
    refine wpList_append_own_at w hgd s y 25 ho B 5 i0 (.int .u8 0) 1 1 Try.underlying25 hi0 hz0 hz1 hz2 rfl (by decide) v zs.length (BCells zs) hs hown.row ad m c (BCells ys) hx (by rw [BCells_length, hi.len, Nat.mul_one]) ?_ ?_ ?_ ?_ hB ?_
    · intro j u hj
      have hjl : j < ys.length := by
        have := (List.getElem?_eq_some_iff.1 hj).1
        rwa [BCells_length] at this
      rw [BCells_get ys j hjl] at hj
      obtain rfl := Option.some.inj hj
      obtain ⟨ad', e, _, hc⟩ := hi.mem (by rw [← hi.len]; omega)
      obtain rfl := Option.some.inj e
      exact hc j (by rw [← hi.len]; exact hjl)
    · intro u hu
      obtain ⟨z, _, rfl⟩ := List.mem_map.1 hu
      rfl
    · have := hi.len; unfold maxLen; omega
    · have := hi.len; omega
    · intro v' w' ho' hg _ hat
      refine h v' w' ⟨?_, ?_, ?_⟩ ⟨hg, ?_⟩
      · rw [BCells_append, List.length_append, hi.len]; exact ho'
      · intro z hz
        rcases List.mem_append.1 hz with hz | hz
        · exact hown.rng z hz
        · exact hi.rng z hz
      · rw [List.length_append]; exact hf
      · rcases hat with e | e
        · exact .inl e
        · exact .inr ⟨_, e, Nat.le_refl _⟩
end Go.Proofs.Ytchnfahgmceohaa

/- putNumber, Put; folded, Folded. -/
namespace Go.Proofs.Ytchnfahgmceohaa
open Go.RowKit
set_option linter.unusedVariables false

theorem OwnB.below {w w' : World} {B : Nat} {v : Value} {zs : List Int} (h : OwnB w B v zs) (hb : Below w.heap.size w w') : OwnB w' B v zs := by
  refine ⟨h.row.kept (row := none) ⟨hb.os, hb.tape, hb.output, hb.size, fun k hk _ => hb.block k hk⟩ ?_, h.rng, h.few⟩
  rcases hv : v.ownBlock with _ | k
  · exact .inl rfl
  · exact .inr (by simp)
theorem or128 (y : Nat) (h : y < 128) : bits .or .u8 (y : Int) 128 = ((y + 128 : Nat) : Int) := by
  have : ∀ z : Fin 128, bits .or .u8 ((z.val : Nat) : Int) 128 = ((z.val + 128 : Nat) : Int) := by decide +kernel
  exact this ⟨y, h⟩
/-- What a function hands back that appends to bytes of the call's own. -/
def RetO (B : Nat) (bs : List Int) (w : World) (e : Ending) (w' : World) : Prop := ∃ v, e = .returned v ∧ OwnB w' B v bs ∧ Below B w w'

set_option maxRecDepth 100000 in
set_option maxHeartbeats 1000000 in
theorem putNumber_calls (B : Nat) (v : Value) (bs : List Int) (n : Nat) (w : World) (ho : OwnB w B v bs) (hB : B ≤ w.heap.size) (hn : (n : Int) ≤ 9223372036854775807) (hl : bs.length ≤ 1000000000000) :
    Calls Try.prog 56 #[v, .int .i64 n] w (RetO B (bs ++ putL n) w) := by
  have HO := Lib.hid ho
  have HL := Lib.hid hl
  clear ho hl
  go_enter Try.func56, Try.ntmps56
  go_wp2
  go_loopw [0, 1] (fun t x wr => ∃ (m : Nat) (ds : List Int), x = .int .i64 m ∧ (m : Int) ≤ 9223372036854775807 ∧ OwnB wr B t (bs ++ ds) ∧ ds.length + (putL m).length = (putL n).length ∧ Hid (ds ++ putL m = putL n) ∧ Below B w wr) (fun _ x _ => (intOf x).toNat)
  case atStart => exact ⟨n, [], rfl, hn, by rw [List.append_nil]; exact HO.out, by simp, Lib.hid rfl, Below.refl _ _⟩
  case round =>
    obtain ⟨m, ds, rfl, hm, ho, hle, he, hbe⟩ := hrel
    have HO1 := Lib.hid ho
    have HBE := Lib.hid hbe
    have hpl := putL_len n
    have hdl : ds.length ≤ 10 := by omega
    have hbl : wr.heap.size ≥ B := Nat.le_trans hB hbe.size
    clear ho hbe
    by_cases hg : ¬ (m : Int) < 128
    · have hbig := putL_big (n := m) (by omega) (by omega)
      have HE : Hid (ds ++ [((m % 128 + 128 : Nat) : Int)] ++ putL (m / 128) = putL n) := Lib.hid (by rw [← he.out, hbig]; simp)
      have HLE : Hid ((ds ++ [((m % 128 + 128 : Nat) : Int)]).length + (putL (m / 128)).length = (putL n).length) := Lib.hid (by rw [hbig] at hle; simp at hle ⊢; omega)
      clear hbig he hle
      obtain ⟨y, hy⟩ : ∃ y : Nat, m % 128 = y := ⟨_, rfl⟩
      have hy1 : (m : Int) % 128 = (y : Int) := by omega
      have hyl : (y : Int) < 128 := by omega
      have hor : bits .or .u8 (y : Int) 128 = ((y + 128 : Nat) : Int) := or128 y (by omega)
      rw [hy] at HE HLE
      obtain ⟨Y, hY⟩ : ∃ Y : Nat, y + 128 = Y := ⟨_, rfl⟩
      rw [hY] at HE HLE hor
      go_wp2_with (at_builtin; refine wpList_append_byte wr B _ (bs ++ ds) (Y : Int) rfl _ _ rfl rfl rfl HO1.out hbl (by have := HL.out; simp; omega) (by omega) ?_)
      intro v' w1 ho1 hb1
      have HO2 : Hid (OwnB w1 B v' (bs ++ (ds ++ [(Y : Int)]))) := Lib.hid ho1
      have HB2 := Lib.hid (HBE.out.trans hb1)
      have hq : ((m / 128 : Nat) : Int) = (m : Int) / 128 := by omega
      clear ho1 hb1 hor hy hY hy1 hyl
      go_wp2
      go_roundw
      case rel => exact ⟨m / 128, ds ++ [(Y : Int)], by rw [hq], by omega, HO2.out, HLE.out, HE, HB2.out⟩
      case measure => simp [intOf]; omega
    · have hs := putL_small (n := m) (by omega)
      rw [hs] at he hle
      have HE : Hid (bs ++ (ds ++ [(m : Int)]) = bs ++ putL n) := Lib.hid (by rw [← he.out])
      have hw : IntKind.u8.wrap (m : Int) = (m : Int) := IntWalk.u8_in _ (by omega)
      clear he hle hs
      go_wp2_with (at_builtin; refine wpList_append_byte wr B _ (bs ++ ds) (m : Int) rfl _ _ rfl rfl rfl HO1.out hbl (by have := HL.out; simp; omega) (by omega) ?_)
      intro v' w1 ho1 hb1
      rw [HE.out] at ho1
      have HO2 := Lib.hid ho1
      have HB2 := Lib.hid (HBE.out.trans hb1)
      clear ho1 hb1
      go_wp2
      go_ret
      exact ⟨_, rfl, HO2.out, HB2.out⟩

/-- .. in a world in which only the slice's own block was written. -/
def RetG (B : Nat) (bs : List Int) (v0 : Value) (w : World) (e : Ending) (w' : World) : Prop := ∃ v, e = .returned v ∧ OwnB w' B v bs ∧ Gro w w' v0 v
set_option maxRecDepth 100000 in
set_option maxHeartbeats 1000000 in
theorem Put_refG (B : Nat) (v : Value) (bs : List Int) (n : Nat) (w : World) (ho : OwnB w B v bs) (hB : B ≤ w.heap.size) (hn : (n : Int) ≤ 9223372036854775807) (hl : bs.length ≤ 1000000000000) :
    Calls Try.prog 61 #[v, .int .i64 n] w (RetG B (bs ++ putL n) v w) := by
  have HO := Lib.hid ho
  have HL := Lib.hid hl
  clear ho hl
  go_enter Try.func61, Try.ntmps61
  go_wp2
  go_loopw [0, 1] (fun t x wr => ∃ (m : Nat) (ds : List Int), x = .int .i64 m ∧ (m : Int) ≤ 9223372036854775807 ∧ OwnB wr B t (bs ++ ds) ∧ ds.length + (putL m).length = (putL n).length ∧ Hid (ds ++ putL m = putL n) ∧ Gro w wr v t ∧ B ≤ wr.heap.size) (fun _ x _ => (intOf x).toNat)
  case atStart => exact ⟨n, [], rfl, hn, by rw [List.append_nil]; exact HO.out, by simp, Lib.hid rfl, Gro.refl _ _, hB⟩
  case round =>
    obtain ⟨m, ds, rfl, hm, ho, hle, he, hbe, hbl⟩ := hrel
    have HO1 := Lib.hid ho
    have HBE := Lib.hid hbe
    have hpl := putL_len n
    have hdl : ds.length ≤ 10 := by omega
    clear ho hbe
    by_cases hg : ¬ (m : Int) < 128
    · have hbig := putL_big (n := m) (by omega) (by omega)
      have HE : Hid (ds ++ [((m % 128 + 128 : Nat) : Int)] ++ putL (m / 128) = putL n) := Lib.hid (by rw [← he.out, hbig]; simp)
      have HLE : Hid ((ds ++ [((m % 128 + 128 : Nat) : Int)]).length + (putL (m / 128)).length = (putL n).length) := Lib.hid (by rw [hbig] at hle; simp at hle ⊢; omega)
      clear hbig he hle
      obtain ⟨y, hy⟩ : ∃ y : Nat, m % 128 = y := ⟨_, rfl⟩
      have hy1 : (m : Int) % 128 = (y : Int) := by omega
      have hyl : (y : Int) < 128 := by omega
      rw [hy] at HE HLE
      obtain ⟨Y, hY⟩ : ∃ Y : Nat, y + 128 = Y := ⟨_, rfl⟩
      rw [hY] at HE HLE
      have hyY : (y : Int) + 128 = (Y : Int) := by omega
      have hor : IntKind.u8.wrap (Y : Int) = (Y : Int) := IntWalk.u8_in _ (by omega)
      go_wp2_with (at_builtin; refine wpList_append_byteG wr B _ (bs ++ ds) (Y : Int) rfl _ _ rfl rfl rfl HO1.out hbl (by have := HL.out; simp; omega) (by omega) ?_)
      intro v' w1 ho1 hb1
      have HO2 : Hid (OwnB w1 B v' (bs ++ (ds ++ [(Y : Int)]))) := Lib.hid ho1
      have HB2 := Lib.hid (HBE.out.trans hb1)
      have hz2 : B ≤ w1.heap.size := Nat.le_trans hbl hb1.g.size
      have hq : ((m / 128 : Nat) : Int) = (m : Int) / 128 := by omega
      clear ho1 hb1 hor hy hY hy1 hyl hyY
      go_wp2
      go_roundw
      case rel => exact ⟨m / 128, ds ++ [(Y : Int)], by rw [hq], by omega, HO2.out, HLE.out, HE, HB2.out, hz2⟩
      case measure => simp [intOf]; omega
    · have hs := putL_small (n := m) (by omega)
      rw [hs] at he hle
      have HE : Hid (bs ++ (ds ++ [(m : Int)]) = bs ++ putL n) := Lib.hid (by rw [← he.out])
      have hw : IntKind.u8.wrap (m : Int) = (m : Int) := IntWalk.u8_in _ (by omega)
      clear he hle hs
      go_wp2_with (at_builtin; refine wpList_append_byteG wr B _ (bs ++ ds) (m : Int) rfl _ _ rfl rfl rfl HO1.out hbl (by have := HL.out; simp; omega) (by omega) ?_)
      intro v' w1 ho1 hb1
      rw [HE.out] at ho1
      have HO2 := Lib.hid ho1
      have HB2 := Lib.hid (HBE.out.trans hb1)
      have hz2 : B ≤ w1.heap.size := Nat.le_trans hbl hb1.g.size
      clear ho1 hb1
      go_wp2
      go_ret
      exact ⟨_, rfl, HO2.out, HB2.out⟩

theorem Put_ref (B : Nat) (v : Value) (bs : List Int) (n : Nat) (w : World) (ho : OwnB w B v bs) (hB : B ≤ w.heap.size) (hn : (n : Int) ≤ 9223372036854775807) (hl : bs.length ≤ 1000000000000) :
    Calls Try.prog 61 #[v, .int .i64 n] w (RetO B (bs ++ putL n) w) :=
  (Put_refG B v bs n w ho hB hn hl).mono fun _ _ ⟨v', he, ho', hg⟩ => ⟨v', he, ho', hg.below ho hB⟩

theorem folded_calls (z : Int) (w : World) (h0 : -4611686018427387903 ≤ z) (h1 : z ≤ 4611686018427387903) : Calls Try.prog 57 #[.int .i64 z] w fun e w' => e = .returned (.int .i64 (foldN z : Nat)) ∧ w = w' := by
  by_cases h : z < 0
  · rw [foldN_neg h]
    go_enter Try.func57, Try.ntmps57
    go_wp2
    go_ret
    exact ⟨ret_i (by omega), rfl⟩
  · rw [foldN_pos h]
    go_enter Try.func57, Try.ntmps57
    go_wp2
    go_ret
    exact ⟨ret_i (by omega), rfl⟩
theorem Folded_ref (z : Int) (w : World) (h0 : -4611686018427387903 ≤ z) (h1 : z ≤ 4611686018427387903) : Calls Try.prog 73 #[.int .i64 z] w fun e w' => e = .returned (.int .i64 (foldN z : Nat)) ∧ w = w' := by
  by_cases h : z < 0
  · rw [foldN_neg h]
    go_enter Try.func73, Try.ntmps73
    go_wp2
    go_ret
    exact ⟨ret_i (by omega), rfl⟩
  · rw [foldN_pos h]
    go_enter Try.func73, Try.ntmps73
    go_wp2
    go_ret
    exact ⟨ret_i (by omega), rfl⟩
end Go.Proofs.Ytchnfahgmceohaa
