/- A list in descending order, as a plain function. No program in sight. -/
import Derived.Test.YtfhikdgdckfalaaMB09
import Derived.Test.YtfhikdgdckfalaaMB04
import Derived.Handy
import Derived.Lib.Hide
import Derived.IntWalk
import Derived.Sort.WalkA
import Derived.Sort.WalkB2
import Derived.Sort.WalkB12
import Derived.BigRegion
import Derived.Shelf.RegionOpenPlain

namespace Go.Proofs.Ytfhikdgdckfalaa
open Go.RowKit
set_option linter.unusedVariables false

/-- S is the list's elements, descending. -/
def DescOf (n : Nat) (l : List Int) (S : Nat → Int) : Prop := Desc 0 n S ∧ (∀ x, cN x S n = cN x (el l) n) ∧ ∀ k, k < n → ∃ j, j < n ∧ S k = el l j
theorem DescOf.one {n : Nat} {l : List Int} {S T : Nat → Int} (h : DescOf n l S) (h2 : DescOf n l T) : ∀ k, k < n → S k = T k :=
  desc_one h.1 h2.1 fun x => (h.2.1 x).trans (h2.2.1 x).symm
theorem DescOf.plL {n p : Nat} {l : List Int} {S T : Nat → Int} (h : DescOf n l S) (h2 : DescOf n l T) : plL n p S = plL n p T := by
  unfold Go.Proofs.Ytfhikdgdckfalaa.plL; rw [plA_congr n (h.one h2)]
def insD (x : Int) : List Int → List Int
  | [] => [x]
  | y :: r => if y < x then x :: y :: r else y :: insD x r
def srtL : List Int → List Int
  | [] => []
  | x :: r => insD x (srtL r)
theorem insD_len (x : Int) : ∀ l, (insD x l).length = l.length + 1
  | [] => rfl
  | y :: r => by rw [insD]; split <;> simp [insD_len x r]
theorem srtL_len : ∀ l, (srtL l).length = l.length
  | [] => rfl
  | x :: r => by rw [srtL, insD_len, srtL_len r]; simp
theorem insD_mem {x z : Int} : ∀ {l}, z ∈ insD x l → z = x ∨ z ∈ l
  | [], h => by rw [insD, List.mem_singleton] at h; exact .inl h
  | y :: r, h => by
    rw [insD] at h
    split at h
    · simpa using h
    · rcases List.mem_cons.1 h with e | e
      · exact .inr (by rw [e]; simp)
      · rcases insD_mem e with e | e
        · exact .inl e
        · exact .inr (List.mem_cons.2 (.inr e))
theorem cN_cons (z x : Int) (l : List Int) : ∀ n, cN z (el (x :: l)) (n + 1) = (if x = z then 1 else 0) + cN z (el l) n
  | 0 => by simp [cN, el]
  | n + 1 => by
    rw [cN, cN_cons z x l n, cN, show el (x :: l) (n + 1) = el l n from rfl]
    omega
theorem insD_cn (z x : Int) : ∀ l : List Int, cN z (el (insD x l)) (insD x l).length = (if x = z then 1 else 0) + cN z (el l) l.length
  | [] => by rw [insD]; exact cN_cons z x [] 0
  | y :: r => by
    rw [insD]
    split
    · exact cN_cons z x (y :: r) _
    · rw [List.length_cons, cN_cons, insD_cn z x r, List.length_cons, cN_cons]; omega
theorem srtL_cn (z : Int) : ∀ l : List Int, cN z (el (srtL l)) (srtL l).length = cN z (el l) l.length
  | [] => rfl
  | x :: r => by rw [srtL, insD_cn, srtL_cn z r, List.length_cons, cN_cons]
def DesL : List Int → Prop
  | [] => True
  | x :: r => (∀ y, y ∈ r → y ≤ x) ∧ DesL r
theorem insD_des (x : Int) : ∀ {l}, DesL l → DesL (insD x l)
  | [], _ => ⟨by simp, trivial⟩
  | y :: r, h => by
    rw [insD]
    split
    · rename_i hyx
      refine ⟨fun z hz => ?_, h⟩
      rcases List.mem_cons.1 hz with e | e
      · omega
      · have := h.1 z e; omega
    · refine ⟨fun z hz => ?_, insD_des x h.2⟩
      rcases insD_mem hz with e | e
      · omega
      · exact h.1 z e
theorem srtL_des : ∀ l, DesL (srtL l)
  | [] => trivial
  | x :: r => insD_des x (srtL_des r)
theorem DesL.desc : ∀ {l : List Int}, DesL l → Desc 0 l.length (el l)
  | [], _ => fun i j _ _ h => absurd h (by simp)
  | x :: r, h => fun i j i0 ij jl => by
    match i, j with
    | 0, 0 => exact Int.le_refl _
    | 0, j + 1 => exact h.1 _ (el_mem (zs := r) (k := j) (by simpa using jl))
    | i + 1, 0 => omega
    | i + 1, j + 1 => exact DesL.desc h.2 i j (by omega) (by omega) (by simpa using jl)
theorem descOf_of {n : Nat} {l : List Int} {S : Nat → Int} (d : Desc 0 n S) (c : ∀ x, cN x S n = cN x (el l) n) : DescOf n l S :=
  ⟨d, c, fun k hk => by
    obtain ⟨j, j1, j2⟩ := cN_pos (x := S k) (F := el l) (n := n) (by rw [← c]; exact cN_at hk)
    exact ⟨j, j1, j2.symm⟩⟩
theorem srtL_of (l : List Int) : DescOf l.length l (el (srtL l)) := by
  have h := DesL.desc (srtL_des l)
  have c := fun x => srtL_cn x l
  rw [srtL_len] at h
  simp only [srtL_len] at c
  exact descOf_of h c
/-- The blocks of a list around a peak. -/
def placL (l : List Int) (p : Nat) : List Int := plL l.length p (el (srtL l))
theorem DescOf.placL {n p : Nat} {l : List Int} {S : Nat → Int} (hl : l.length = n) (h : DescOf n l S) : Go.Proofs.Ytfhikdgdckfalaa.plL n p S = Go.Proofs.Ytfhikdgdckfalaa.placL l p := by
  subst hl; exact h.plL (srtL_of l)
end Go.Proofs.Ytfhikdgdckfalaa

/- cmp.Compare of integers; the order that placed sorts by. -/
namespace Go.Proofs.Ytfhikdgdckfalaa
open Go.RowKit
set_option linter.unusedVariables false

def cmpV (x y : Int) : Int := if x < y then -1 else if y < x then 1 else 0
theorem compare_calls (x y : Int) (w : World) :
    Calls Try.prog 84 #[.int .i64 x, .int .i64 y] w fun e w' => e = .returned (.int .i64 (cmpV x y)) ∧ w = w' := by
  unfold cmpV
  by_cases h : x < y
  · rw [if_pos h]
    go_enter Try.func84, Try.ntmps84
    go_wp2
    go_ret
    exact ⟨rfl, rfl⟩
  · rw [if_neg h]
    by_cases h2 : y < x
    · rw [if_pos h2]
      go_enter Try.func84, Try.ntmps84
      go_wp2
      go_ret
      exact ⟨rfl, rfl⟩
    · rw [if_neg h2]
      go_enter Try.func84, Try.ntmps84
      go_wp2
      go_ret
      exact ⟨rfl, rfl⟩
end Go.Proofs.Ytfhikdgdckfalaa

/- swapRangeCmpFunc, rotateCmpFunc: ranges that change places. -/
namespace Go.Proofs.Ytfhikdgdckfalaa
open Go.RowKit
set_option linter.unusedVariables false

/-- The order that placed sorts by, as a value. -/
abbrev cmpP : Value := .func (.func 83) #[] #[]
theorem placed1_calls (x y : Int) (w : World) :
    Calls Try.prog 83 #[.int .i64 x, .int .i64 y] w fun e w' => e = .returned (.int .i64 (cmpV y x)) ∧ w = w' := by
  have CC := Lib.hid (compare_calls y x w)
  generalize cmpV y x = v at *
  go_enter Try.func83, Try.ntmps83
  go_wp2_with fail
  refine (CC.out).mono ?_
  rintro e w1 ⟨rfl, rfl⟩
  go_wp2
  go_ret
  exact ⟨rfl, rfl⟩
/-- A row that may be sorted. -/
structure SRow (w : World) (g n c : Nat) (F : Nat → Int) : Prop where
  r : Row w g n F
  hc : n ≤ c
  hm : c ≤ 9223372036854775807
  hf : n ≤ 17592186044416
theorem SRow.drew {w : World} {g n c : Nat} {F : Nat → Int} (h : SRow w g n c F) : SRow w.drew g n c F := ⟨h.r.drew, h.hc, h.hm, h.hf⟩
theorem SRow.drewN {w : World} {g n c : Nat} {F : Nat → Int} (h : SRow w g n c F) (k : Nat) : SRow (w.drewN k) g n c F := ⟨⟨h.r.cell, h.r.free, h.r.lt⟩, h.hc, h.hm, h.hf⟩
/-- What a walk wants to know of two elements that change places. -/
structure Pair2 (w : World) (g n c : Nat) (G : Nat → Int) (i j : Nat) (x y : Int) : Prop where
  ca : w.cell? ⟨g, i, none⟩ = some (.int .i64 x)
  cb : w.cell? ⟨g, j, none⟩ = some (.int .i64 y)
  fa : w.frozen? ⟨g, i, none⟩ = false
  fb : w.frozen? ⟨g, j, none⟩ = false
  cc : ∃ u, (w.setCell ⟨g, i, none⟩ (.int .i64 y)).cell? ⟨g, j, none⟩ = some u
  nx : SRow ((w.setCell ⟨g, i, none⟩ (.int .i64 y)).setCell ⟨g, j, none⟩ (.int .i64 x)).drew g n c G
theorem SRow.pair {w : World} {g n c : Nat} {F : Nat → Int} (h : SRow w g n c F) {i j : Nat} (hi : i < n) (hj : j < n) : Pair2 w g n c (swp F i j) i j (F i) (F j) := by
  refine ⟨h.r.cell i hi, h.r.cell j hj, h.r.free i, h.r.free j, ?_, ⟨((h.r.set i (F j)).set j (F i)).drew, h.hc, h.hm, h.hf⟩⟩
  exact ⟨_, (h.r.set i (F j)).cell j hj⟩
theorem below_swap {B : Nat} {w0 w : World} (h : Below B w0 w) {g : Nat} (hg : B ≤ g) (i j : Nat) (x y : Value) : Below B w0 ((w.setCell ⟨g, i, none⟩ x).setCell ⟨g, j, none⟩ y).drew := by
  have := (h.setCell (p := ⟨g, i, none⟩) hg x).setCell (p := ⟨g, j, none⟩) hg y
  exact ⟨this.os, this.tape, this.output, this.size, this.block⟩
/-- What is handed back: nothing; the row reads otherwise. -/
def Turned (g n c : Nat) (G : Nat → Int) (w : World) (e : Ending) (w' : World) : Prop := e = .returned (.tuple #[]) ∧ SRow w' g n c G ∧ Below g w w'

set_option maxRecDepth 100000 in
set_option maxHeartbeats 4000000 in
theorem swapRange_calls {g n c : Nat} {F : Nat → Int} (x y k : Nat) (w : World) (h : SRow w g n c F) (h1 : x + k ≤ n) (h2 : y + k ≤ n) (hd : x + k ≤ y ∨ y + k ≤ x) :
    Calls Try.prog 111 #[.slice (some ⟨g, 0, none⟩) n c, .int .i64 x, .int .i64 y, .int .i64 k, cmpP] w (Turned g n c (srF F x y k) w) := by
  have hc := h.hc
  have hm := h.hm
  have hf := h.hf
  have H := Lib.hid h
  clear h
  go_enter Try.func111, Try.ntmps111
  go_wp2
  go_loopw [10] (fun i wr => ∃ m : Nat, m ≤ k ∧ i = .int .i64 m ∧ SRow wr g n c (srF F x y m) ∧ Below g w wr) (fun i _ => k - (intOf i).toNat)
  case atStart => exact ⟨0, Nat.zero_le _, rfl, by rw [srF_zero]; exact H.out, Below.refl _ _⟩
  case round =>
    obtain ⟨m, hmk, rfl, hr, hb⟩ := hrel
    generalize wr = wo at *
    have HR := Lib.hid hr
    have HB := Lib.hid hb
    clear hr hb
    by_cases hlt : (m : Int) < (k : Int)
    · obtain ⟨p, hp⟩ : ∃ p, x + m = p := ⟨_, rfl⟩
      obtain ⟨q, hq⟩ : ∃ q, y + m = q := ⟨_, rfl⟩
      have P := HR.out.pair (i := p) (j := q) (by omega) (by omega)
      have HS : Hid (swp (srF F x y m) p q = srF F x y (m + 1)) := Lib.hid (by rw [← hp, ← hq]; exact srF_succ F (by omega))
      obtain ⟨ca, cb, fa, fb, ⟨u, cc⟩, nx⟩ := P
      rw [HS.out] at nx
      have ep : (x : Int) + (m : Int) = (p : Int) := by omega
      have eq : (y : Int) + (m : Int) = (q : Int) := by omega
      have bp : (p : Int) < (n : Int) := by omega
      have bq : (q : Int) < (n : Int) := by omega
      have rp : IntKind.i64.wrap (p : Int) = (p : Int) := IntWalk.i64_in _ (by omega)
      have rq : IntKind.i64.wrap (q : Int) = (q : Int) := IntWalk.i64_in _ (by omega)
      generalize srF F x y m p = a at *
      generalize srF F x y m q = b at *
      have NX := Lib.hid nx
      have NB := Lib.hid (below_swap HB.out (Nat.le_refl g) p q (.int .i64 b) (.int .i64 a))
      clear HS hp hq nx
      have mixed : Try.prog.follows Departure.mixedOrders = true := by kernel_rfl
      go_wp2_with fail
      go_big_region_o
      clear ca cb fa fb cc
      generalize ((wo.setCell ⟨g, p, none⟩ (.int .i64 b)).setCell ⟨g, q, none⟩ (.int .i64 a)).drew = w2 at *
      go_wp2
      go_roundw
      case rel => exact ⟨m + 1, by omega, by go_num, NX.out, NB.out⟩
      case measure => simp [intOf]; try omega
    · obtain rfl : m = k := by omega
      go_wp2
      go_end0
      exact ⟨rfl, HR.out, HB.out⟩
end Go.Proofs.Ytfhikdgdckfalaa
