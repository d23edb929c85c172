/- Due of the program and of the reference. -/
import Derived.Test.YtihaabdgligbbaaStep
namespace Go.Proofs.Ytihaabdgligbbaa
open Go.RowKit
set_option linter.unusedVariables false

/-- Whether after k years the tail from grade g on is at least p thousandths. -/
def dueB (ts : List (List Int)) (l : List Int) (g : Nat) (p : Int) (k : Nat) : Bool := decide (p * sumL (yearsL ts l k) ≤ 1000 * sumL ((yearsL ts l k).drop g))
/-- The first such year from k on, f years looked at. -/
def dueFrom (ts : List (List Int)) (l : List Int) (g : Nat) (p : Int) : Nat → Nat → Int × Int
  | 0, _ => (0, 12)
  | f + 1, k => if dueB ts l g p k = true then ((k : Int), 0) else dueFrom ts l g p f (k + 1)
def DueV (ts : List (List Int)) (l : List Int) (grade part : Int) : Int × Int :=
  if givenE ts l = 0 then (if 1 ≤ grade ∧ grade ≤ l.length ∧ 0 ≤ part ∧ part ≤ 1000 then dueFrom ts l (grade.toNat - 1) part 201 0 else (0, 2)) else (0, givenE ts l)
theorem drop_in {m : Int} {l : List Int} (h : inB m l = true) (g : Nat) : inB m (l.drop g) = true := inB_iff.2 fun z hz => inB_iff.1 h z (List.mem_of_mem_drop hz)

/-- A call's answer: a number and an error number. -/
abbrev RetN (V : Int × Int) (w : World) : Ending → World → Prop := fun e w' => e = .returned (.tuple #[.int .i64 V.1, .int .i64 V.2]) ∧ Below w.heap.size w w'

set_option maxHeartbeats 1000000 in
set_option maxRecDepth 100000 in
theorem Due_in {A A' : Option Addr} {n c n' c' : Nat} {ts : List (List Int)} {l : List Int} (g : Nat) (p : Int) (w : World) (h : Tab w A n c ts) (h' : Ints w A' n' c' l) (e : givenE ts l = 0) (hg : g < n') (hp0 : 0 ≤ p) (hp1 : p ≤ 1000) :
    Calls Try.prog 14 #[.slice A n c, .slice A' n' c', .int .i64 ((g : Int) + 1), .int .i64 p] w (RetN (dueFrom ts l g p 201 0) w) := by
  have gv := given_calls w h h'
  rw [e] at gv
  have G := Lib.hid gv
  have OK := Lib.hid (yearOk_of e)
  have H := Lib.hid h
  have H' := Lib.hid h'
  have HL := Lib.hid h.len
  have HL' := Lib.hid h'.len
  have hnn : n = n' := by rw [← h.len, ← h'.len]; exact (yearOk_of e).len
  have hgi : (g : Int) + 1 ≤ n := by omega
  have hn8 : (n' : Int) ≤ 8 := by have := (stockB_parts (yearOk_of e).s).2.1; rw [h'.len] at this; omega
  have hcap := h.cap
  have hmax := h.max
  have hcap' := h'.cap
  have hmax' := h'.max
  obtain ⟨V, hV⟩ : ∃ V, dueFrom ts l g p 201 0 = V := ⟨_, rfl⟩
  rw [hV]
  have HV := Lib.hid hV
  clear gv h h' e hV hnn
  go_enter Try.func14, Try.ntmps14
  go_wp2_with fail
  refine G.out.mono ?_
  rintro e w' ⟨rfl, rfl⟩
  go_wp2
  go_loopw [11, 38] (fun s i wr => ∃ (k : Nat) (B : Option Addr) (d : Nat), k ≤ 201 ∧ i = .int .i64 k ∧ s = .slice B n' d ∧ Ints wr B n' d (yearsL ts l k) ∧ Below w.heap.size w wr ∧ Hid (dueFrom ts l g p (201 - k) k = V)) (fun _ i _ => 201 - (intOf i).toNat)
  case atStart => exact ⟨0, _, _, Nat.zero_le _, rfl, rfl, H'.out, Below.refl _ _, HV⟩
  case round =>
    obtain ⟨k, B, d, hk, rfl, rfl, hi, hb, hd⟩ := hrel
    have HI := Lib.hid hi
    have HB := Lib.hid hb
    have hdc := hi.cap
    have hdm := hi.max
    by_cases hlt : k < 201
    · have okk := (OK.out.years k).1
      have hin := (stockB_parts okk.s).2.2.1
      have hs0 := sum_nonneg hin
      have hs1 := (stockB_parts okk.s).2.2.2
      have i2 := hi.drop (show g ≤ n' by omega)
      rw [if_neg (show ¬ d = g by omega)] at i2
      have dr := drop_in hin g
      have hsd0 := sum_nonneg dr
      have hsd1 := (sumF_bd (F := el ((yearsL ts l k).drop g)) (n := ((yearsL ts l k).drop g).length) (m := 1125899906842624) (fun j hj => inB_el dr hj)).2
      have hdl : ((yearsL ts l k).drop g).length ≤ 8 := by rw [List.length_drop, hi.len]; omega
      have hsd2 : sumL ((yearsL ts l k).drop g) ≤ 9007199254740992 := by
        unfold sumL
        have := Int.mul_le_mul_of_nonneg_right (show (((yearsL ts l k).drop g).length : Int) ≤ 8 by omega) (show (0 : Int) ≤ 1125899906842624 by omega)
        omega
      have s1 := sum_calls wr i2 (fits_of_in dr (by omega) (by omega) (by omega))
      have s2 := sum_calls wr hi (fits_of_in hin (by rw [hi.len]; omega) (by omega) (by omega))
      have yr := year_calls wr (H.out.below hb) hi okk
      have hdu : dueFrom ts l g p (201 - k) k = if dueB ts l g p k = true then ((k : Int), 0) else dueFrom ts l g p (201 - (k + 1)) (k + 1) := by
        rw [show 201 - k = (201 - (k + 1)) + 1 by omega, dueFrom]
      unfold dueB at hdu
      rw [hd.out] at hdu
      have S1 := Lib.hid s1
      have S2 := Lib.hid s2
      have Y := Lib.hid yr
      obtain ⟨P, hP⟩ : ∃ P, sumL ((yearsL ts l k).drop g) = P := ⟨_, rfl⟩
      obtain ⟨Q, hQ⟩ : ∃ Q, sumL (yearsL ts l k) = Q := ⟨_, rfl⟩
      rw [hP] at S1 hsd0 hsd2 hdu
      rw [hQ] at S2 hs0 hs1 hdu
      obtain ⟨M, hM⟩ : ∃ M, p * Q = M := ⟨_, rfl⟩
      have hM0 : 0 ≤ M := by rw [← hM]; exact Int.mul_nonneg hp0 hs0
      have hM1 : M ≤ 1000 * 1125899906842624 := by rw [← hM]; exact Int.mul_le_mul hp1 hs1 hs0 (by omega)
      rw [hM] at hdu
      have HDU := Lib.hid hdu
      have hYL : Hid ((yearL ts (yearsL ts l k)).length = n') := Lib.hid (by rw [yearL_length, (OK.out.years k).2.1, HL'.out])
      clear hin dr hsd1 hdl s1 s2 yr hdu hi hb hP hQ i2 hd okk
      by_cases ht : M ≤ 1000 * P
      · have hv : V = ((k : Int), 0) := by have := HDU.out; rw [decide_eq_true ht, if_pos rfl] at this; exact this
        subst hv
        go_wp2_with fail
        refine S1.out.mono ?_
        rintro e w' ⟨rfl, rfl⟩
        go_wp2_with fail
        refine S2.out.mono ?_
        rintro e w' ⟨rfl, rfl⟩
        go_wp2
        go_returns
        exact ⟨rfl, HB.out⟩
      · have hv : Hid (dueFrom ts l g p (201 - (k + 1)) (k + 1) = V) := Lib.hid (by have := HDU.out; rw [decide_eq_false ht, if_neg (by decide)] at this; exact this.symm)
        go_wp2_with fail
        refine S1.out.mono ?_
        rintro e w' ⟨rfl, rfl⟩
        go_wp2_with fail
        refine S2.out.mono ?_
        rintro e w' ⟨rfl, rfl⟩
        go_wp2_with fail
        refine Y.out.mono ?_
        rintro e w3 ⟨B3, m3, d3, rfl, hi3, hb3, hf3⟩
        have hm3 : m3 = n' := by rw [← hi3.len, hYL.out]
        subst hm3
        have HI3 := Lib.hid hi3
        have HB3 := Lib.hid (below_then HB.out hb3 HB.out.size)
        clear hi3 hb3 hf3
        go_wp2
        go_roundw
        case rel => exact ⟨k + 1, _, _, by omega, by go_num, rfl, HI3.out, HB3.out, hv⟩
        case measure => simp [intOf]; try omega
    · obtain rfl : k = 201 := by omega
      have hv : V = (0, 12) := by rw [← hd.out]; rfl
      subst hv
      clear hi hb hd
      go_wp2
      go_returns
      exact ⟨rfl, HB.out⟩
end Go.Proofs.Ytihaabdgligbbaa
