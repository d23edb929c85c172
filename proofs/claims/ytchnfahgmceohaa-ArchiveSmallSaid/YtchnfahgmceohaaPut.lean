/- putNumber, Put; folded, Folded. -/
import Derived.Test.YtchnfahgmceohaaPutLaw
import Derived.Test.YtchnfahgmceohaaOwnG
import Derived.Test.YtchnfahgmceohaaProg
import Derived.WalkKit
import Derived.WalkLawsBesides
import Derived.IntWalk
namespace Go.Proofs.Ytchnfahgmceohaa
open Go.RowKit
set_option linter.unusedVariables false

theorem OwnB.below {w w' : World} {B : Nat} {v : Value} {zs : List Int} (h : OwnB w B v zs) (hb : Below w.heap.size w w') : OwnB w' B v zs := by
  refine ⟨h.row.kept (row := none) ⟨hb.os, hb.tape, hb.output, hb.size, fun k hk _ => hb.block k hk⟩ ?_, h.rng, h.few⟩
  rcases hv : v.ownBlock with _ | k
  · exact .inl rfl
  · exact .inr (by simp)
theorem or128 (y : Nat) (h : y < 128) : bits .or .u8 (y : Int) 128 = ((y + 128 : Nat) : Int) := by
  have : ∀ z : Fin 128, bits .or .u8 ((z.val : Nat) : Int) 128 = ((z.val + 128 : Nat) : Int) := by decide +kernel
  exact this ⟨y, h⟩
/-- What a function hands back that appends to bytes of the call's own. -/
def RetO (B : Nat) (bs : List Int) (w : World) (e : Ending) (w' : World) : Prop := ∃ v, e = .returned v ∧ OwnB w' B v bs ∧ Below B w w'

set_option maxRecDepth 100000 in
set_option maxHeartbeats 1000000 in
theorem putNumber_calls (B : Nat) (v : Value) (bs : List Int) (n : Nat) (w : World) (ho : OwnB w B v bs) (hB : B ≤ w.heap.size) (hn : (n : Int) ≤ 9223372036854775807) (hl : bs.length ≤ 1000000000000) :
    Calls Try.prog 56 #[v, .int .i64 n] w (RetO B (bs ++ putL n) w) := by
  have HO := Lib.hid ho
  have HL := Lib.hid hl
  clear ho hl
  go_enter Try.func56, Try.ntmps56
  go_wp2
  go_loopw [0, 1] (fun t x wr => ∃ (m : Nat) (ds : List Int), x = .int .i64 m ∧ (m : Int) ≤ 9223372036854775807 ∧ OwnB wr B t (bs ++ ds) ∧ ds.length + (putL m).length = (putL n).length ∧ Hid (ds ++ putL m = putL n) ∧ Below B w wr) (fun _ x _ => (intOf x).toNat)
  case atStart => exact ⟨n, [], rfl, hn, by rw [List.append_nil]; exact HO.out, by simp, Lib.hid rfl, Below.refl _ _⟩
  case round =>
    obtain ⟨m, ds, rfl, hm, ho, hle, he, hbe⟩ := hrel
    have HO1 := Lib.hid ho
    have HBE := Lib.hid hbe
    have hpl := putL_len n
    have hdl : ds.length ≤ 10 := by omega
    have hbl : wr.heap.size ≥ B := Nat.le_trans hB hbe.size
    clear ho hbe
    by_cases hg : ¬ (m : Int) < 128
    · have hbig := putL_big (n := m) (by omega) (by omega)
      have HE : Hid (ds ++ [((m % 128 + 128 : Nat) : Int)] ++ putL (m / 128) = putL n) := Lib.hid (by rw [← he.out, hbig]; simp)
      have HLE : Hid ((ds ++ [((m % 128 + 128 : Nat) : Int)]).length + (putL (m / 128)).length = (putL n).length) := Lib.hid (by rw [hbig] at hle; simp at hle ⊢; omega)
      clear hbig he hle
      obtain ⟨y, hy⟩ : ∃ y : Nat, m % 128 = y := ⟨_, rfl⟩
      have hy1 : (m : Int) % 128 = (y : Int) := by omega
      have hyl : (y : Int) < 128 := by omega
      have hor : bits .or .u8 (y : Int) 128 = ((y + 128 : Nat) : Int) := or128 y (by omega)
      rw [hy] at HE HLE
      obtain ⟨Y, hY⟩ : ∃ Y : Nat, y + 128 = Y := ⟨_, rfl⟩
      rw [hY] at HE HLE hor
      go_wp2_with (at_builtin; refine wpList_append_byte wr B _ (bs ++ ds) (Y : Int) rfl _ _ rfl rfl rfl HO1.out hbl (by have := HL.out; simp; omega) (by omega) ?_)
      intro v' w1 ho1 hb1
      have HO2 : Hid (OwnB w1 B v' (bs ++ (ds ++ [(Y : Int)]))) := Lib.hid ho1
      have HB2 := Lib.hid (HBE.out.trans hb1)
      have hq : ((m / 128 : Nat) : Int) = (m : Int) / 128 := by omega
      clear ho1 hb1 hor hy hY hy1 hyl
      go_wp2
      go_roundw
      case rel => exact ⟨m / 128, ds ++ [(Y : Int)], by rw [hq], by omega, HO2.out, HLE.out, HE, HB2.out⟩
      case measure => simp [intOf]; omega
    · have hs := putL_small (n := m) (by omega)
      rw [hs] at he hle
      have HE : Hid (bs ++ (ds ++ [(m : Int)]) = bs ++ putL n) := Lib.hid (by rw [← he.out])
      have hw : IntKind.u8.wrap (m : Int) = (m : Int) := IntWalk.u8_in _ (by omega)
      clear he hle hs
      go_wp2_with (at_builtin; refine wpList_append_byte wr B _ (bs ++ ds) (m : Int) rfl _ _ rfl rfl rfl HO1.out hbl (by have := HL.out; simp; omega) (by omega) ?_)
      intro v' w1 ho1 hb1
      rw [HE.out] at ho1
      have HO2 := Lib.hid ho1
      have HB2 := Lib.hid (HBE.out.trans hb1)
      clear ho1 hb1
      go_wp2
      go_ret
      exact ⟨_, rfl, HO2.out, HB2.out⟩

/-- .. in a world in which only the slice's own block was written. -/
def RetG (B : Nat) (bs : List Int) (v0 : Value) (w : World) (e : Ending) (w' : World) : Prop := ∃ v, e = .returned v ∧ OwnB w' B v bs ∧ Gro w w' v0 v
set_option maxRecDepth 100000 in
set_option maxHeartbeats 1000000 in
theorem Put_refG (B : Nat) (v : Value) (bs : List Int) (n : Nat) (w : World) (ho : OwnB w B v bs) (hB : B ≤ w.heap.size) (hn : (n : Int) ≤ 9223372036854775807) (hl : bs.length ≤ 1000000000000) :
    Calls Try.prog 61 #[v, .int .i64 n] w (RetG B (bs ++ putL n) v w) := by
  have HO := Lib.hid ho
  have HL := Lib.hid hl
  clear ho hl
  go_enter Try.func61, Try.ntmps61
  go_wp2
  go_loopw [0, 1] (fun t x wr => ∃ (m : Nat) (ds : List Int), x = .int .i64 m ∧ (m : Int) ≤ 9223372036854775807 ∧ OwnB wr B t (bs ++ ds) ∧ ds.length + (putL m).length = (putL n).length ∧ Hid (ds ++ putL m = putL n) ∧ Gro w wr v t ∧ B ≤ wr.heap.size) (fun _ x _ => (intOf x).toNat)
  case atStart => exact ⟨n, [], rfl, hn, by rw [List.append_nil]; exact HO.out, by simp, Lib.hid rfl, Gro.refl _ _, hB⟩
  case round =>
    obtain ⟨m, ds, rfl, hm, ho, hle, he, hbe, hbl⟩ := hrel
    have HO1 := Lib.hid ho
    have HBE := Lib.hid hbe
    have hpl := putL_len n
    have hdl : ds.length ≤ 10 := by omega
    clear ho hbe
    by_cases hg : ¬ (m : Int) < 128
    · have hbig := putL_big (n := m) (by omega) (by omega)
      have HE : Hid (ds ++ [((m % 128 + 128 : Nat) : Int)] ++ putL (m / 128) = putL n) := Lib.hid (by rw [← he.out, hbig]; simp)
      have HLE : Hid ((ds ++ [((m % 128 + 128 : Nat) : Int)]).length + (putL (m / 128)).length = (putL n).length) := Lib.hid (by rw [hbig] at hle; simp at hle ⊢; omega)
      clear hbig he hle
      obtain ⟨y, hy⟩ : ∃ y : Nat, m % 128 = y := ⟨_, rfl⟩
      have hy1 : (m : Int) % 128 = (y : Int) := by omega
      have hyl : (y : Int) < 128 := by omega
      rw [hy] at HE HLE
      obtain ⟨Y, hY⟩ : ∃ Y : Nat, y + 128 = Y := ⟨_, rfl⟩
      rw [hY] at HE HLE
      have hyY : (y : Int) + 128 = (Y : Int) := by omega
      have hor : IntKind.u8.wrap (Y : Int) = (Y : Int) := IntWalk.u8_in _ (by omega)
      go_wp2_with (at_builtin; refine wpList_append_byteG wr B _ (bs ++ ds) (Y : Int) rfl _ _ rfl rfl rfl HO1.out hbl (by have := HL.out; simp; omega) (by omega) ?_)
      intro v' w1 ho1 hb1
      have HO2 : Hid (OwnB w1 B v' (bs ++ (ds ++ [(Y : Int)]))) := Lib.hid ho1
      have HB2 := Lib.hid (HBE.out.trans hb1)
      have hz2 : B ≤ w1.heap.size := Nat.le_trans hbl hb1.g.size
      have hq : ((m / 128 : Nat) : Int) = (m : Int) / 128 := by omega
      clear ho1 hb1 hor hy hY hy1 hyl hyY
      go_wp2
      go_roundw
      case rel => exact ⟨m / 128, ds ++ [(Y : Int)], by rw [hq], by omega, HO2.out, HLE.out, HE, HB2.out, hz2⟩
      case measure => simp [intOf]; omega
    · have hs := putL_small (n := m) (by omega)
      rw [hs] at he hle
      have HE : Hid (bs ++ (ds ++ [(m : Int)]) = bs ++ putL n) := Lib.hid (by rw [← he.out])
      have hw : IntKind.u8.wrap (m : Int) = (m : Int) := IntWalk.u8_in _ (by omega)
      clear he hle hs
      go_wp2_with (at_builtin; refine wpList_append_byteG wr B _ (bs ++ ds) (m : Int) rfl _ _ rfl rfl rfl HO1.out hbl (by have := HL.out; simp; omega) (by omega) ?_)
      intro v' w1 ho1 hb1
      rw [HE.out] at ho1
      have HO2 := Lib.hid ho1
      have HB2 := Lib.hid (HBE.out.trans hb1)
      have hz2 : B ≤ w1.heap.size := Nat.le_trans hbl hb1.g.size
      clear ho1 hb1
      go_wp2
      go_ret
      exact ⟨_, rfl, HO2.out, HB2.out⟩

theorem Put_ref (B : Nat) (v : Value) (bs : List Int) (n : Nat) (w : World) (ho : OwnB w B v bs) (hB : B ≤ w.heap.size) (hn : (n : Int) ≤ 9223372036854775807) (hl : bs.length ≤ 1000000000000) :
    Calls Try.prog 61 #[v, .int .i64 n] w (RetO B (bs ++ putL n) w) :=
  (Put_refG B v bs n w ho hB hn hl).mono fun _ _ ⟨v', he, ho', hg⟩ => ⟨v', he, ho', hg.below ho hB⟩

theorem folded_calls (z : Int) (w : World) (h0 : -4611686018427387903 ≤ z) (h1 : z ≤ 4611686018427387903) : Calls Try.prog 57 #[.int .i64 z] w fun e w' => e = .returned (.int .i64 (foldN z : Nat)) ∧ w = w' := by
  by_cases h : z < 0
  · rw [foldN_neg h]
    go_enter Try.func57, Try.ntmps57
    go_wp2
    go_ret
    exact ⟨ret_i (by omega), rfl⟩
  · rw [foldN_pos h]
    go_enter Try.func57, Try.ntmps57
    go_wp2
    go_ret
    exact ⟨ret_i (by omega), rfl⟩
theorem Folded_ref (z : Int) (w : World) (h0 : -4611686018427387903 ≤ z) (h1 : z ≤ 4611686018427387903) : Calls Try.prog 73 #[.int .i64 z] w fun e w' => e = .returned (.int .i64 (foldN z : Nat)) ∧ w = w' := by
  by_cases h : z < 0
  · rw [foldN_neg h]
    go_enter Try.func73, Try.ntmps73
    go_wp2
    go_ret
    exact ⟨ret_i (by omega), rfl⟩
  · rw [foldN_pos h]
    go_enter Try.func73, Try.ntmps73
    go_wp2
    go_ret
    exact ⟨ret_i (by omega), rfl⟩
end Go.Proofs.Ytchnfahgmceohaa
