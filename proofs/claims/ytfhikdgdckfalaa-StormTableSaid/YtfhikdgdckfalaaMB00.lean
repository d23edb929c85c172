/- Slices of integers that read as lists, nil let in: what they are, what keeps them, what reading and cutting gives. No program in sight. -/
import Derived.Below
import Derived.Laws.OwnMore
import Derived.Deep.AppendLies
import Derived.Deep.Draws
import Derived.Lib.Hide
import Derived.ChangeSlices
import Derived.Test.YtfhikdgdckfalaaProg
import Derived.WalkKit
import Derived.WalkLawsBesides
import Derived.Handy
import Derived.Deep.QuietTactic
import Derived.BigQuiet
import Derived.IntWalk

namespace Go.Proofs.Ytfhikdgdckfalaa
open Go.RowKit
set_option linter.unusedVariables false

theorem below_then {B : Nat} {a b c : World} (h : Below B a b) (k : Below b.heap.size b c) (hs : B ≤ b.heap.size) : Below B a c := h.trans (k.mono hs)
theorem block_of_add (a : Addr) (n : Nat) : (a.add n).block = a.block := by unfold Addr.add; split <;> rfl
theorem add_of_add (a : Addr) (i j : Nat) : (a.add i).add j = a.add (i + j) := by
  unfold Addr.add
  by_cases hi : i = 0 <;> by_cases hj : j = 0 <;> simp [hi, hj, Nat.add_assoc]

/-- The element k of a list of integers, 0 behind its end. -/
def el (zs : List Int) (k : Nat) : Int := zs.getD k 0
/-- The slice with base A, length n, capacity c reads as the integers zs. -/
structure Ints (w : World) (A : Option Addr) (n c : Nat) (zs : List Int) : Prop where
  len : zs.length = n
  cap : n ≤ c
  max : c ≤ 9223372036854775807
  few : n ≤ 17592186044416
  rng : ∀ z ∈ zs, -9223372036854775808 ≤ z ∧ z ≤ 9223372036854775807
  mem : 0 < n → ∃ ad, A = some ad ∧ ad.block < w.heap.size ∧ ∀ j, j < n → w.cell? (ad.add j) = some (.int .i64 (el zs j))
  nl : A = none → c = 0

section
variable {w w' : World} {A : Option Addr} {n c : Nat} {zs : List Int}
theorem Ints.nil (w : World) : Ints w none 0 0 [] := ⟨rfl, Nat.le_refl _, by omega, by omega, by simp, fun h => absurd h (by omega), fun _ => rfl⟩
theorem Ints.at_ (h : Ints w A n c zs) {k : Nat} (hk : k < n) : ∃ ad, A = some ad ∧ ad.block < w.heap.size ∧ w.cell? (ad.add k) = some (.int .i64 (el zs k)) := by
  obtain ⟨ad, e, hb, hc⟩ := h.mem (by omega)
  exact ⟨ad, e, hb, hc k hk⟩
theorem Ints.rngD (h : Ints w A n c zs) (k : Nat) : -9223372036854775808 ≤ el zs k ∧ el zs k ≤ 9223372036854775807 := by
  unfold el
  rw [List.getD_eq_getElem?_getD]
  cases hz : zs[k]? with
  | none => simp
  | some z => exact h.rng z (List.mem_of_getElem? hz)
theorem Ints.below (h : Ints w A n c zs) (hb : Below w.heap.size w w') : Ints w' A n c zs :=
  ⟨h.len, h.cap, h.max, h.few, h.rng, fun hn => by
    obtain ⟨ad, e, hl, hc⟩ := h.mem hn
    exact ⟨ad, e, Nat.lt_of_lt_of_le hl hb.size, fun j hj => (hb.cell (p := ad.add j) (by rw [block_of_add]; exact hl)).trans (hc j hj)⟩, h.nl⟩
theorem Ints.alloc (h : Ints w A n c zs) (o : Obj) : Ints (w.alloc o) A n c zs := h.below ((Below.refl _ _).alloc (Nat.le_refl _) o)
theorem Ints.keep (h : Ints w A n c zs) (hs : w.heap.size ≤ w'.heap.size) (hc : ∀ ad j, A = some ad → j < n → w'.cell? (ad.add j) = w.cell? (ad.add j)) : Ints w' A n c zs :=
  ⟨h.len, h.cap, h.max, h.few, h.rng, fun hn => by
    obtain ⟨ad, e, hl, hm⟩ := h.mem hn
    exact ⟨ad, e, Nat.lt_of_lt_of_le hl hs, fun j hj => (hc ad j e hj).trans (hm j hj)⟩, h.nl⟩
theorem Ints.far (h : Ints w A n c zs) {p : Addr} (hp : ∀ ad, A = some ad → ad.block ≠ p.block) (u : Value) : Ints (w.setCell p u) A n c zs :=
  h.keep (by simp [World.setCell]) fun ad j e _ => World.cell?_setCell_other w p (ad.add j) u (by intro e2; exact hp ad e (by rw [← block_of_add ad j, ← e2]))
theorem Ints.drewN (h : Ints w A n c zs) (k : Nat) : Ints (w.drewN k) A n c zs := ⟨h.len, h.cap, h.max, h.few, h.rng, h.mem, h.nl⟩
/-- Cut from k on. -/
theorem Ints.drop (h : Ints w A n c zs) {k : Nat} (hk : k ≤ n) : Ints w (if c = k then A else A.map (·.add k)) (n - k) (c - k) (zs.drop k) := by
  refine ⟨by rw [List.length_drop, h.len], by have := h.cap; omega, by have := h.max; omega, by have := h.few; omega, fun z hz => h.rng z (List.mem_of_mem_drop hz), fun hn => ?_, fun e => ?_⟩
  rotate_left
  · cases A with
    | none => have := h.nl rfl; omega
    | some ad => split at e <;> cases e
  obtain ⟨ad, rfl, hl, hc⟩ := h.mem (by omega)
  rw [if_neg (by have := h.cap; omega)]
  refine ⟨ad.add k, rfl, by rw [block_of_add]; exact hl, fun j hj => ?_⟩
  rw [add_of_add, hc (k + j) (by omega)]
  simp [el, List.getD_eq_getElem?_getD, List.getElem?_drop]
/-- Cut at k. -/
theorem Ints.take (h : Ints w A n c zs) {k : Nat} (hk : k ≤ n) : Ints w A k c (zs.take k) := by
  refine ⟨by rw [List.length_take, h.len]; omega, by have := h.cap; omega, h.max, by have := h.few; omega, fun z hz => h.rng z (List.mem_of_mem_take hz), fun hn => ?_, h.nl⟩
  obtain ⟨ad, rfl, hl, hc⟩ := h.mem (by omega)
  refine ⟨ad, rfl, hl, fun j hj => ?_⟩
  rw [hc j (by omega), el, el, List.getD_eq_getElem?_getD, List.getD_eq_getElem?_getD, List.getElem?_take, if_pos hj]
theorem take_succ_el (zs : List Int) (k : Nat) (h : k < zs.length) : zs.take (k + 1) = zs.take k ++ [el zs k] := by
  unfold el
  rw [List.take_succ_eq_append_getElem h, List.getD_eq_getElem?_getD, List.getElem?_eq_getElem h]; rfl
theorem el_mem {k : Nat} (h : k < zs.length) : el zs k ∈ zs := by
  unfold el; rw [List.getD_eq_getElem?_getD, List.getElem?_eq_getElem h]; exact List.getElem_mem h
theorem ext_el {ys : List Int} (h : zs.length = ys.length) (he : ∀ k, k < zs.length → el zs k = el ys k) : zs = ys := by
  apply List.ext_getElem h
  intro i h1 h2
  have := he i h1
  unfold el at this
  rwa [List.getD_eq_getElem?_getD, List.getD_eq_getElem?_getD, List.getElem?_eq_getElem h1, List.getElem?_eq_getElem h2] at this
end
theorem ret_b {b b' : Bool} (h : b = b') : Ending.returned (.bool b) = .returned (.bool b') := by rw [h]
theorem ret_i {k : IntKind} {a b : Int} (h : a = b) : Ending.returned (.int k a) = .returned (.int k b) := by rw [h]
theorem below_drewN {B : Nat} {a w : World} (h : Below B a w) (n : Nat) : Below B a (w.drewN n) := ⟨h.os, h.tape, h.output, h.size, h.block⟩
end Go.Proofs.Ytfhikdgdckfalaa

/- slices.Equal at integers says whether two slices read as the same list; a list is looked through for the first element outside a range. -/
namespace Go.Proofs.Ytfhikdgdckfalaa
open Go.RowKit
set_option linter.unusedVariables false

theorem take_eq_step {zs ys : List Int} {k : Nat} (hz : k < zs.length) (hy : k < ys.length) (h : zs.take k = ys.take k) (he : el zs k = el ys k) : zs.take (k + 1) = ys.take (k + 1) := by
  rw [take_succ_el zs k hz, take_succ_el ys k hy, h, he]
theorem ne_of_el {zs ys : List Int} {k : Nat} (he : ¬ el zs k = el ys k) : ¬ zs = ys := fun h => he (by rw [h])

set_option maxHeartbeats 1000000 in
theorem equal_calls {A A' : Option Addr} {n c n' c' : Nat} {zs ys : List Int} (w : World) (h : Ints w A n c zs) (h' : Ints w A' n' c' ys) :
    Calls Try.prog 41 #[.slice A n c, .slice A' n' c'] w fun e w' => e = .returned (.bool (decide (zs = ys))) ∧ Below w.heap.size w w' := by
  have hz := h.len
  have hy := h'.len
  have hb := h.cap
  have hb2 := h.max
  have hb' := h'.cap
  have hb2' := h'.max
  by_cases hn : n = n'
  · subst hn
    have H := Lib.hid h
    have H' := Lib.hid h'
    have HZ := Lib.hid hz
    have HY := Lib.hid hy
    clear h h' hz hy
    go_enter Try.func41, Try.ntmps41
    go_wp2
    go_loopw [13] (fun i wr => ∃ k : Nat, k ≤ n ∧ i = .int .i64 k ∧ zs.take k = ys.take k ∧ ∃ d, wr = w.drewN d) (fun i _ => n - (intOf i).toNat)
    case atStart => exact ⟨0, Nat.zero_le _, rfl, rfl, 0, rfl⟩
    case round =>
      obtain ⟨k, hk, rfl, ht, d, rfl⟩ := hrel
      have HT := Lib.hid ht
      clear ht
      by_cases hlt : k < n
      · obtain ⟨ad, rfl, hl, hc⟩ := H.out.at_ hlt
        obtain ⟨ad', rfl, hl', hc'⟩ := H'.out.at_ hlt
        have HE := fun he => take_eq_step (by rw [HZ.out]; exact hlt) (by rw [HY.out]; exact hlt) HT.out he
        have HN := @ne_of_el zs ys k
        have HE' := Lib.hid HE
        have HN' := Lib.hid HN
        clear HE HN
        go_wp2
        go_quiet (fail)
        by_cases he : el zs k = el ys k
        · have he' : ((el zs k : Int) != el ys k) = false := by rw [bne_eq_false_iff_eq]; exact he
          have HEE := Lib.hid he
          clear he
          go_wp2
          go_roundw
          case rel => exact ⟨k + 1, by omega, by go_num, HE'.out HEE.out, _, rfl⟩
          case measure => simp [intOf]; omega
        · have he' : ((el zs k : Int) != el ys k) = true := by rw [bne_iff_ne]; exact he
          have HEE := Lib.hid he
          clear he
          go_wp2
          go_ret
          exact ⟨ret_b (decide_eq_false (HN'.out HEE.out)).symm, below_drewN (below_drewN (Below.refl _ _) _) _⟩
      · go_wp2
        go_ret
        exact ⟨ret_b (Eq.symm (decide_eq_true (by have := HT.out; rwa [List.take_of_length_le (by rw [HZ.out]; omega), List.take_of_length_le (by rw [HY.out]; omega)] at this))), below_drewN (Below.refl _ _) _⟩
  · have hn' : ((n : Int) != n') = true := by rw [bne_iff_ne]; omega
    have HN := Lib.hid (show ¬ zs = ys from fun e => hn (by rw [← hz, ← hy, e]))
    clear hn h h' hz hy
    go_enter Try.func41, Try.ntmps41
    go_wp2
    go_ret
    exact ⟨ret_b (decide_eq_false HN.out).symm, Below.refl _ _⟩
end Go.Proofs.Ytfhikdgdckfalaa

/- slices.BinarySearch in an ascending list. -/
namespace Go.Proofs.Ytfhikdgdckfalaa
open Go.RowKit
set_option linter.unusedVariables false

/-- How many elements stand before x. -/
def lbN (x : Int) : List Int → Nat
  | [] => 0
  | z :: r => if z < x then lbN x r + 1 else 0
theorem lb_le (x : Int) : ∀ l : List Int, lbN x l ≤ l.length
  | [] => Nat.le_refl _
  | z :: r => by have := lb_le x r; rw [lbN]; split <;> simp <;> omega
theorem lb_lt {x : Int} : ∀ {l : List Int} {k : Nat}, k < lbN x l → el l k < x
  | [], k, h => absurd h (by simp [lbN])
  | z :: r, k, h => by
    rw [lbN] at h
    split at h
    · match k with
      | 0 => show z < x; assumption
      | k + 1 => exact lb_lt (l := r) (k := k) (by omega)
    · omega
theorem lb_at {x : Int} : ∀ {l : List Int}, lbN x l < l.length → x ≤ el l (lbN x l)
  | [], h => absurd h (by simp)
  | z :: r, h => by
    rw [lbN] at h ⊢
    split
    · rename_i hz
      rw [if_pos hz] at h
      exact lb_at (l := r) (by simpa using h)
    · show x ≤ z; omega
/-- The elements ascend. -/
def Asc (l : List Int) : Prop := ∀ i j, i < j → j < l.length → el l i < el l j
theorem asc_le {l : List Int} (h : Asc l) {i j : Nat} (hij : i ≤ j) (hj : j < l.length) : el l i ≤ el l j := by
  by_cases e : i = j
  · subst e; exact Int.le_refl _
  · exact Int.le_of_lt (h i j (by omega) hj)
theorem less_calls (x y : Int) (w : World) : Calls Try.prog 104 #[.int .i64 x, .int .i64 y] w fun e w' => e = .returned (.bool (decide (x < y))) ∧ w = w' := by
  by_cases h : x < y
  · rw [decide_eq_true h]
    go_enter Try.func104, Try.ntmps104
    go_wp2
    go_ret
    exact ⟨ret_b (by simp; try omega), rfl⟩
  · rw [decide_eq_false h]
    go_enter Try.func104, Try.ntmps104
    go_wp2
    go_ret
    exact ⟨ret_b (by simp; try omega), rfl⟩
theorem isNaN_calls (x : Int) (w : World) : Calls Try.prog 105 #[.int .i64 x] w fun e w' => e = .returned (.bool false) ∧ w = w' := by
  go_enter Try.func105, Try.ntmps105
  go_wp2
  go_ret
  exact ⟨ret_b (by simp), rfl⟩
/-- Whether x is in the list. -/
def inL (x : Int) (l : List Int) : Bool := decide (lbN x l < l.length) && decide (el l (lbN x l) = x)

set_option maxRecDepth 100000 in
set_option maxHeartbeats 2000000 in
theorem binary_calls {A : Option Addr} {n c : Nat} {l : List Int} (x : Int) (w : World) (h : Ints w A n c l) (ha : Asc l) :
    Calls Try.prog 99 #[.slice A n c, .int .i64 x] w fun e w' => e = .returned (.tuple #[.int .i64 (lbN x l : Nat), .bool (inL x l)]) ∧ w = w' := by
  have hcap := h.cap
  have hmax := h.max
  have hfew := h.few
  have hlen := h.len
  have hle := lb_le x l
  have LT := Lib.hid (fun k (hk : k < lbN x l) => lb_lt hk)
  have AT := Lib.hid (fun (hk : lbN x l < l.length) => lb_at hk)
  have AL := Lib.hid (fun i j (hij : i ≤ j) (hj : j < l.length) => asc_le ha hij hj)
  have HL := Lib.hid hlen
  have H := Lib.hid h
  obtain ⟨V, hin⟩ : ∃ V, inL x l = V := ⟨_, rfl⟩
  rw [hin]
  unfold inL at hin
  have IN := Lib.hid hin.symm
  clear hin
  have LS := Lib.hid (fun y W => less_calls y x W)
  have NN := Lib.hid (fun y W => isNaN_calls y W)
  rw [hlen] at hle
  generalize lbN x l = L at *
  clear h hlen ha
  go_enter Try.func99, Try.ntmps99
  go_wp2
  go_loop [7, 8] (fun a b => ∃ i j : Nat, i ≤ L ∧ L ≤ j ∧ j ≤ n ∧ a = .int .i64 i ∧ b = .int .i64 j) (fun a b => (intOf b).toNat - (intOf a).toNat)
  case atStart => exact ⟨0, n, Nat.zero_le _, hle, Nat.le_refl _, rfl, rfl⟩
  case round =>
    obtain ⟨i, j, hi, hj, hjn, rfl, rfl⟩ := hrel
    by_cases hij : (i : Int) < (j : Int)
    · obtain ⟨m, hm⟩ : ∃ m, (i + j) / 2 = m := ⟨_, rfl⟩
      have e1 : ((i : Int) + (j : Int)) / 2 = (m : Int) := by omega
      have hmj : m < j := by omega
      have him : i ≤ m := by omega
      obtain ⟨ad, rfl, -, hc⟩ := H.out.at_ (show m < n by omega)
      have hmn : (m : Int) < (n : Int) := by omega
      have LSM := Lib.hid (LS.out (el l m) w)
      by_cases hlt : el l m < x
      · have hmL : m < L := by
          by_cases hh : m < L
          · exact hh
          · exfalso
            have h1 := AT.out (by rw [HL.out]; omega)
            have h2 := AL.out L m (by omega) (by rw [HL.out]; omega)
            omega
        rw [decide_eq_true hlt] at LSM
        generalize el l m = d at *
        clear hm hlt
        go_wp2_with fail
        refine (LSM.out).mono ?_
        rintro e w1 ⟨rfl, rfl⟩
        go_wp2
        go_round
        case rel => exact ⟨m + 1, j, by omega, hj, hjn, by go_num, rfl⟩
        case measure => simp [intOf]; omega
      · have hmL : L ≤ m := by
          by_cases hh : L ≤ m
          · exact hh
          · exfalso
            have h1 := LT.out m (by omega)
            omega
        rw [decide_eq_false hlt] at LSM
        generalize el l m = d at *
        clear hm hlt
        go_wp2_with fail
        refine (LSM.out).mono ?_
        rintro e w1 ⟨rfl, rfl⟩
        go_wp2
        go_round
        case rel => exact ⟨i, m, hi, hmL, by omega, rfl, rfl⟩
        case measure => simp [intOf]; omega
    · obtain rfl : i = L := by omega
      have hv := IN.out
      clear LT AT AL LS
      by_cases hLn : (i : Int) < (n : Int)
      · obtain ⟨ad, rfl, -, hc⟩ := H.out.at_ (show i < n by omega)
        rw [decide_eq_true (show i < l.length by rw [HL.out]; omega), Bool.true_and] at hv
        have N1 := Lib.hid (NN.out (el l i) w)
        have N2 := Lib.hid (NN.out x w)
        generalize el l i = d at *
        by_cases he : d = x
        · rw [decide_eq_true he] at hv
          subst hv he
          go_wp2
          go_ret2
          exact ⟨rfl, rfl⟩
        · rw [decide_eq_false he] at hv
          subst hv
          have he2 : (d == x) = false := by simp [he]
          clear he
          go_wp2_with fail
          refine (N1.out).mono ?_
          rintro e w1 ⟨rfl, rfl⟩
          go_wp2
          go_ret2
          exact ⟨rfl, rfl⟩
      · rw [decide_eq_false (show ¬ i < l.length by rw [HL.out]; omega), Bool.false_and] at hv
        subst hv
        go_wp2
        go_ret2
        exact ⟨rfl, rfl⟩
end Go.Proofs.Ytfhikdgdckfalaa
