/- Power of the program. -/
import Derived.Test.YtihaabdgligbbaaAfter
import Derived.Test.YtihaabdgligbbaaOwnT
import Derived.Laws.NewBlocks
namespace Go.Proofs.Ytihaabdgligbbaa
open Go.RowKit
set_option linter.unusedVariables false

/-- What a function hands back that returns rows and an error number. -/
def RetT (ts : List (List Int)) (x : Int) (w : World) (e : Ending) (w' : World) : Prop := ∃ A n c, e = .returned (.tuple #[.slice A n c, .int .i64 x]) ∧ Tab w' A n c ts ∧ Below w.heap.size w w'
theorem RetT.none_ {w w' : World} {x : Int} (hb : Below w.heap.size w w') : RetT [] x w (.returned (.tuple #[.slice none 0 0, .int .i64 x])) w' := ⟨none, 0, 0, rfl, Tab.nil _, hb⟩
def unitL (n i : Nat) : List Int := fl n (fun j => if j = i then 1000000 else 0)
def powTo (ts : List (List Int)) (y k : Nat) : List (List Int) := (List.range k).map fun i => yearsL ts (unitL ts.length i) y
def powL (ts : List (List Int)) (y : Nat) : List (List Int) := powTo ts y ts.length
def PowV (ts : List (List Int)) (y : Int) : List (List Int) × Int :=
  if validT ts = true then (if 0 ≤ y ∧ y ≤ 200 then (powL ts y.toNat, 0) else ([], 2)) else ([], 1)
theorem powTo_succ (ts : List (List Int)) (y k : Nat) : powTo ts y (k + 1) = powTo ts y k ++ [yearsL ts (unitL ts.length k) y] := by simp [powTo, List.range_succ]
theorem powTo_length (ts : List (List Int)) (y k : Nat) : (powTo ts y k).length = k := by simp [powTo]
theorem unit_sum {i : Nat} : ∀ n, sumF (fun j => if j = i then (1000000 : Int) else 0) n = if i < n then 1000000 else 0
  | 0 => by simp [sumF]
  | n + 1 => by
    rw [sumF, unit_sum n]
    by_cases h : i < n
    · rw [if_pos h, if_neg (by omega), if_pos (by omega)]; rfl
    · rw [if_neg h]
      by_cases h2 : n = i
      · rw [if_pos h2, if_pos (by omega)]; rfl
      · rw [if_neg h2, if_neg (by omega)]; rfl
theorem unit_stock {n i : Nat} (hn : n ≤ 8) (hi : i < n) : stockB (unitL n i) = true := by
  have hl : (unitL n i).length = n := fl_length _ _
  unfold stockB
  have hs : sumL (unitL n i) = 1000000 := by
    unfold sumL
    rw [hl, show sumF (el (unitL n i)) n = sumF (fun j => if j = i then (1000000 : Int) else 0) n from sumF_congr (fun k hk => el_fl _ hk), unit_sum, if_pos hi]
  rw [hl, hs, decide_eq_true (show 1 ≤ n by omega), decide_eq_true hn, Bool.true_and, Bool.true_and, Bool.and_eq_true]
  refine ⟨inB_iff.2 fun z hz => ?_, by decide⟩
  obtain ⟨k, hk, rfl⟩ := fl_mem hz
  split <;> omega
theorem unit_given {ts : List (List Int)} (h : validT ts = true) {i : Nat} (hi : i < ts.length) : givenE ts (unitL ts.length i) = 0 := by
  unfold givenE
  rw [h, unit_stock (validT_parts h).2.1 hi, if_neg (by decide), if_pos (by unfold unitL; rw [fl_length])]
abbrev unitO (n k : Nat) : Obj := .cells ((madeCells #[.int .i64 0] n).setIfInBounds k (.int .i64 1000000)) 3
theorem unit_ints (w : World) {n : Nat} (k : Nat) (hn : n ≤ 8) : Ints (w.alloc (unitO n k)) (some ⟨w.heap.size, 0, none⟩) n n (unitL n k) := by
  have h := ((Row.made w n).set k 1000000).ints (Nat.le_refl n) (by omega) (by omega) (fun q _ => by split <;> omega)
  rw [World.setCell_alloc_at _ _ _ _ _ rfl] at h
  exact h

set_option maxHeartbeats 1000000 in
theorem Power_in {A : Option Addr} {n c : Nat} {ts : List (List Int)} (y : Nat) (w : World) (h : Tab w A n c ts) (hv : validT ts = true) (hy : (y : Int) ≤ 200) :
    Calls Try.prog 22 #[.slice A n c, .int .i64 y] w (RetT (powL ts y) 0 w) := by
  have hcap := h.cap
  have hmax := h.max
  have va := Valid_calls w h
  rw [hv] at va
  have VA := Lib.hid va
  have hn8 : (n : Int) ≤ 8 := by have := (validT_parts hv).2.1; rw [h.len] at this; omega
  have HVT := Lib.hid hv
  have H := Lib.hid h
  have HL := Lib.hid h.len
  have hmk := make_rows n (by omega)
  have hmk2 := make_ints n (by omega)
  have HO := Lib.hid (OwnT.room w w.heap.size n (Nat.le_refl _) (by omega))
  clear h hv va
  go_enter Try.func22, Try.ntmps22
  go_wp2_with fail
  refine (VA.out).mono ?_
  rintro e w' ⟨rfl, rfl⟩
  go_wp2
  clear hmk
  go_loopw [6, 19] (fun t i wr => ∃ (k : Nat) (v : Value), k ≤ n ∧ i = .int .i64 k ∧ t = v ∧ OwnT wr w.heap.size v (powTo ts y k) ∧ Below w.heap.size w wr) (fun _ i _ => n - (intOf i).toNat)
  case atStart => exact ⟨0, _, Nat.zero_le _, rfl, rfl, HO.out, (Below.refl _ _).alloc (Nat.le_refl _) _⟩
  case round =>
    obtain ⟨k, v, hk, rfl, rfl, hown, hbe⟩ := hrel
    generalize wr = wo at *
    have HOW := Lib.hid hown
    have HBE := Lib.hid hbe
    clear hown hbe
    by_cases hlt : k < n
    · have HR := Lib.hid (Row.made wo n)
      have co := HR.out.cell k hlt
      have fo := HR.out.free k
      have af := After_calls y (wo.alloc (unitO n k)) ((H.out.below HBE.out).alloc _) (unit_ints wo k (by omega))
      have gi := unit_given HVT.out (show k < ts.length by rw [HL.out]; exact hlt)
      rw [HL.out] at gi
      unfold AfterV at af
      rw [if_pos gi, if_pos (by omega), Int.toNat_natCast] at af
      have AF := Lib.hid af
      have HS : Hid (powTo ts y (k + 1) = powTo ts y k ++ [yearsL ts (unitL n k) y]) := Lib.hid (by rw [powTo_succ, HL.out])
      clear af gi
      generalize yearsL ts (unitL n k) y = R at *
      go_wp2_with fail
      refine (AF.out).mono ?_
      rintro e w3 ⟨A3, n3, c3, rfl, i3, b3, f3⟩
      have HO3 := Lib.hid ((HOW.out.below ((Below.refl _ _).alloc (Nat.le_refl _) (unitO n k))).below b3)
      have HF3 : Hid (0 < n3 → ∀ ad, A3 = some ad → u6.ownBlock ≠ some ad.block) := Lib.hid fun _ ad e hv => by
        have h1 := (HOW.out.lt hv).2
        have h2 := f3 ad e
        simp at h2
        omega
      have HI3 := Lib.hid i3
      have HB3 := Lib.hid (below_then (HBE.out.alloc HBE.out.size (unitO n k)) b3 (by have := HBE.out.size; simp; omega))
      clear i3 b3 f3
      go_wp2_with (at_builtin; refine wpList_append_row _ w.heap.size _ (powTo ts y k) A3 n3 c3 R rfl _ _ rfl rfl rfl HO3.out HI3.out HF3.out HB3.out.size (by rw [powTo_length]; omega) ?_)
      intro v' w4 ho4 hb4
      rw [← HS.out] at ho4
      have HO4 := Lib.hid ho4
      have HB4 := Lib.hid (HB3.out.trans hb4)
      clear ho4 hb4
      go_wp2
      go_roundw
      case rel => exact ⟨k + 1, _, by omega, by go_num, rfl, HO4.out, HB4.out⟩
      case measure => simp [intOf]; try omega
    · obtain rfl : k = n := by omega
      obtain ⟨A1, n1, c1, rfl, ht, hf⟩ := HOW.out.tab
      have HT := Lib.hid ht
      clear ht hf
      go_wp2
      go_returns
      exact ⟨_, _, _, rfl, by have := HT.out; unfold powL; rw [HL.out]; exact this, HBE.out⟩

set_option maxHeartbeats 1000000 in
theorem Power_range {A : Option Addr} {n c : Nat} {ts : List (List Int)} (y : Int) (w : World) (h : Tab w A n c ts) (hv : validT ts = true) (hy : ¬ (0 ≤ y ∧ y ≤ 200)) :
    Calls Try.prog 22 #[.slice A n c, .int .i64 y] w (RetT [] 2 w) := by
  have hcap := h.cap
  have hmax := h.max
  have va := Valid_calls w h
  rw [hv] at va
  have VA := Lib.hid va
  have hn8 : (n : Int) ≤ 8 := by have := (validT_parts hv).2.1; rw [h.len] at this; omega
  have hn1 : 0 < n := by have := (validT_parts hv).1; rw [h.len] at this; omega
  have HVT := Lib.hid hv
  have H := Lib.hid h
  have HL := Lib.hid h.len
  have hmk := make_rows n (by omega)
  have hmk2 := make_ints n (by omega)
  have HY := Lib.hid hy
  clear h hv va hy
  go_enter Try.func22, Try.ntmps22
  go_wp2_with fail
  refine (VA.out).mono ?_
  rintro e w' ⟨rfl, rfl⟩
  go_wp2
  clear hmk
  go_loopw [6, 19] (fun v i wr => i = .int .i64 (0 : Nat) ∧ Below w.heap.size w wr) (fun _ i _ => n - (intOf i).toNat)
  case atStart => exact ⟨rfl, (Below.refl _ _).alloc (Nat.le_refl _) _⟩
  case round =>
    obtain ⟨rfl, hbe⟩ := hrel
    generalize wr = wo at *
    have HBE := Lib.hid hbe
    clear hbe
    have HR := Lib.hid (Row.made wo n)
    have co := HR.out.cell 0 hn1
    have fo := HR.out.free 0
    have af := After_calls y (wo.alloc (unitO n 0)) ((H.out.below HBE.out).alloc _) (unit_ints wo 0 (by omega))
    have gi := unit_given HVT.out (show 0 < ts.length by rw [HL.out]; exact hn1)
    rw [HL.out] at gi
    unfold AfterV at af
    rw [if_pos gi, if_neg HY.out] at af
    have AF := Lib.hid af
    have hn1' : (0 : Int) < n := by omega
    clear af gi
    go_wp2_with fail
    refine (AF.out).mono ?_
    rintro e w3 ⟨A3, n3, c3, rfl, i3, b3, f3⟩
    have HB3 := Lib.hid (below_then (HBE.out.alloc HBE.out.size (unitO n 0)) b3 (by have := HBE.out.size; simp; omega))
    clear i3 b3 f3
    go_wp2
    go_returns
    exact RetT.none_ HB3.out

set_option maxHeartbeats 1000000 in
theorem Power_calls {A : Option Addr} {n c : Nat} {ts : List (List Int)} (y : Int) (w : World) (h : Tab w A n c ts) :
    Calls Try.prog 22 #[.slice A n c, .int .i64 y] w (RetT (PowV ts y).1 (PowV ts y).2 w) := by
  unfold PowV
  cases hv : validT ts
  · rw [if_neg (by decide)]
    have va := Valid_calls w h
    rw [hv] at va
    have VA := Lib.hid va
    have hcap := h.cap
    have hmax := h.max
    clear va hv h
    go_enter Try.func22, Try.ntmps22
    go_wp2_with fail
    refine (VA.out).mono ?_
    rintro e w' ⟨rfl, rfl⟩
    go_wp2
    go_returns
    exact RetT.none_ (Below.refl _ _)
  · rw [if_pos rfl]
    by_cases hy : 0 ≤ y ∧ y ≤ 200
    · obtain ⟨Y, rfl⟩ : ∃ Y : Nat, y = Y := ⟨y.toNat, by omega⟩
      rw [if_pos hy, Int.toNat_natCast]
      exact Power_in Y w h hv hy.2
    · rw [if_neg hy]
      exact Power_range y w h hv hy
end Go.Proofs.Ytihaabdgligbbaa
