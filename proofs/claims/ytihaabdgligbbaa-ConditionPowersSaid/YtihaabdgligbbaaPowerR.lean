/- Power of the reference; Same. -/
import Derived.Test.YtihaabdgligbbaaPower
import Derived.Test.YtihaabdgligbbaaAfterR
import Derived.IntWalk
namespace Go.Proofs.Ytihaabdgligbbaa
open Go.RowKit
set_option linter.unusedVariables false

set_option maxHeartbeats 1000000 in
theorem Power_inR {A : Option Addr} {n c : Nat} {ts : List (List Int)} (y : Nat) (w : World) (h : Tab w A n c ts) (hv : validT ts = true) (hy : (y : Int) ≤ 200) :
    Calls Try.prog 25 #[.slice A n c, .int .i64 y] w (RetT (powL ts y) 0 w) := by
  have hcap := h.cap
  have hmax := h.max
  have va := Valid_ref w h
  rw [hv] at va
  have VA := Lib.hid va
  have hn8 : (n : Int) ≤ 8 := by have := (validT_parts hv).2.1; rw [h.len] at this; omega
  have HVT := Lib.hid hv
  have H := Lib.hid h
  have HL := Lib.hid h.len
  have hmk2 := make_ints n (by omega)
  have yr := years_ref y w
  rw [decide_eq_true (show 0 ≤ (y : Int) ∧ (y : Int) ≤ 200 by omega)] at yr
  have YR := Lib.hid yr
  clear h hv va yr
  go_enter Try.func25, Try.ntmps25
  go_wp2_with fail
  refine (VA.out).mono ?_
  rintro e w' ⟨rfl, rfl⟩
  go_wp2_with fail
  refine (YR.out).mono ?_
  rintro e w' ⟨rfl, rfl⟩
  go_wp2
  go_loopw [6, 7] (fun v i wr => ∃ k : Nat, k ≤ n ∧ i = .int .i64 k ∧ OwnT wr w.heap.size v (powTo ts y k) ∧ Below w.heap.size w wr) (fun _ i _ => n - (intOf i).toNat)
  case atStart => exact ⟨0, Nat.zero_le _, rfl, OwnT.nil _ _, Below.refl _ _⟩
  case round =>
    obtain ⟨k, hk, rfl, hown, hbe⟩ := hrel
    generalize wr = wo at *
    have HOW := Lib.hid hown
    have HBE := Lib.hid hbe
    clear hown hbe
    by_cases hlt : k < n
    · have HR := Lib.hid (Row.made wo n)
      have co := HR.out.cell k hlt
      have fo := HR.out.free k
      have gi := unit_given HVT.out (show k < ts.length by rw [HL.out]; exact hlt)
      rw [HL.out] at gi
      have af := Years_ref y (wo.alloc (unitO n k)) ((H.out.below HBE.out).alloc _) (unit_ints wo k (by omega)) (yearOk_of gi) hy
      have AF := Lib.hid af
      have HS : Hid (powTo ts y (k + 1) = powTo ts y k ++ [yearsL ts (unitL n k) y]) := Lib.hid (by rw [powTo_succ, HL.out])
      clear af gi
      generalize yearsL ts (unitL n k) y = R at *
      go_wp2_with fail
      refine (AF.out).mono ?_
      rintro e w3 ⟨A3, n3, c3, rfl, i3, b3, f3⟩
      have HO3 := Lib.hid ((HOW.out.below ((Below.refl _ _).alloc (Nat.le_refl _) (unitO n k))).below b3)
      have HF3 : Hid (0 < n3 → ∀ ad, A3 = some ad → u6.ownBlock ≠ some ad.block) := Lib.hid fun _ ad e hv => by
        have h1 := (HOW.out.lt hv).2
        have h2 := f3 ad e
        simp at h2
        omega
      have HI3 := Lib.hid i3
      have HB3 := Lib.hid (below_then (HBE.out.alloc HBE.out.size (unitO n k)) b3 (by have := HBE.out.size; simp; omega))
      clear i3 b3 f3
      go_wp2_with (at_builtin; refine wpList_append_row _ w.heap.size _ (powTo ts y k) A3 n3 c3 R rfl _ _ rfl rfl rfl HO3.out HI3.out HF3.out HB3.out.size (by rw [powTo_length]; omega) ?_)
      intro v' w4 ho4 hb4
      rw [← HS.out] at ho4
      have HO4 := Lib.hid ho4
      have HB4 := Lib.hid (HB3.out.trans hb4)
      clear ho4 hb4
      go_wp2
      go_roundw
      case rel => exact ⟨k + 1, by omega, by go_num, HO4.out, HB4.out⟩
      case measure => simp [intOf]; try omega
    · obtain rfl : k = n := by omega
      obtain ⟨A1, n1, c1, rfl, ht, hf⟩ := HOW.out.tab
      have HT := Lib.hid ht
      clear ht hf
      go_wp2
      go_returns
      exact ⟨_, _, _, rfl, by have := HT.out; unfold powL; rw [HL.out]; exact this, HBE.out⟩

set_option maxHeartbeats 1000000 in
theorem Power_ref {A : Option Addr} {n c : Nat} {ts : List (List Int)} (y : Int) (w : World) (h : Tab w A n c ts) :
    Calls Try.prog 25 #[.slice A n c, .int .i64 y] w (RetT (PowV ts y).1 (PowV ts y).2 w) := by
  unfold PowV
  have hcap := h.cap
  have hmax := h.max
  have va := Valid_ref w h
  cases hv : validT ts
  · rw [if_neg (by decide)]
    rw [hv] at va
    have VA := Lib.hid va
    clear va hv h
    go_enter Try.func25, Try.ntmps25
    go_wp2_with fail
    refine (VA.out).mono ?_
    rintro e w' ⟨rfl, rfl⟩
    go_wp2
    go_returns
    exact RetT.none_ (Below.refl _ _)
  · rw [if_pos rfl]
    by_cases hy : 0 ≤ y ∧ y ≤ 200
    · obtain ⟨Y, rfl⟩ : ∃ Y : Nat, y = Y := ⟨y.toNat, by omega⟩
      rw [if_pos hy, Int.toNat_natCast]
      exact Power_inR Y w h hv hy.2
    · rw [if_neg hy]
      rw [hv] at va
      have yr := years_ref y w
      rw [decide_eq_false hy] at yr
      have YR := Lib.hid yr
      have VA := Lib.hid va
      clear va hv h yr hy
      go_enter Try.func25, Try.ntmps25
      go_wp2_with fail
      refine (VA.out).mono ?_
      rintro e w' ⟨rfl, rfl⟩
      go_wp2_with fail
      refine (YR.out).mono ?_
      rintro e w' ⟨rfl, rfl⟩
      go_wp2
      go_returns
      exact RetT.none_ (Below.refl _ _)

/-- Two tables that read the same. -/
theorem tl_ext {ts us : List (List Int)} (h : ts.length = us.length) (he : ∀ k, k < ts.length → tl ts k = tl us k) : ts = us := by
  apply List.ext_getElem h
  intro i h1 h2
  have := he i h1
  unfold tl at this
  rwa [List.getD_eq_getElem?_getD, List.getD_eq_getElem?_getD, List.getElem?_eq_getElem h1, List.getElem?_eq_getElem h2] at this

set_option maxHeartbeats 1000000 in
/-- Same at two tables that read the same: true. -/
theorem Same_same {A A' : Option Addr} {n c n' c' : Nat} {ts : List (List Int)} (w : World) (h : Tab w A n c ts) (h' : Tab w A' n' c' ts) :
    Calls Try.prog 27 #[.slice A n c, .slice A' n' c'] w fun e w' => e = .returned (.bool true) ∧ Below w.heap.size w w' := by
  have hcap := h.cap
  have hmax := h.max
  have hcap' := h'.cap
  have hmax' := h'.max
  obtain rfl : n = n' := by rw [← h.len, ← h'.len]
  have hne : ((n : Int) != (n : Int)) = false := by simp
  have H := Lib.hid h
  have H' := Lib.hid h'
  clear h h'
  go_enter Try.func27, Try.ntmps27
  go_wp2
  go_loopw [5] (fun i wr => ∃ k : Nat, k ≤ n ∧ i = .int .i64 k ∧ ∃ d, wr = w.drewN d) (fun i _ => n - (intOf i).toNat)
  case atStart => exact ⟨0, Nat.zero_le _, rfl, 0, rfl⟩
  case round =>
    obtain ⟨k, hk, rfl, d, rfl⟩ := hrel
    by_cases hlt : k < n
    · obtain ⟨ad, A1, n1, c1, rfl, hl, hc, hi⟩ := H.out.at_ hlt
      obtain ⟨ad', A2, n2, c2, rfl, hl', hc', hi'⟩ := H'.out.at_ hlt
      obtain rfl : n1 = n2 := by rw [← hi.len, ← hi'.len]
      have hcap1 := hi.cap
      have hmax1 := hi.max
      have hcap2 := hi'.cap
      have hmax2 := hi'.max
      have hne1 : ((n1 : Int) != (n1 : Int)) = false := by simp
      have e5 : (k : Int) < n := by omega
      have e6 : (0 : Int) ≤ k := by omega
      have HI := Lib.hid hi
      have HI' := Lib.hid hi'
      clear hi hi'
      go_wp2
      go_quiet (fail)
      go_wp2
      go_loopw [6] (fun i wr => ∃ j : Nat, j ≤ n1 ∧ i = .int .i64 j ∧ ∃ d, wr = w.drewN d) (fun i _ => n1 - (intOf i).toNat)
      case atStart => exact ⟨0, Nat.zero_le _, rfl, d + nq, by rw [World.drewN_drewN]⟩
      case round =>
        obtain ⟨j, hj, rfl, d, rfl⟩ := hrel
        by_cases hlt2 : j < n1
        · obtain ⟨a1, rfl, hl1, hc1⟩ := HI.out.at_ hlt2
          obtain ⟨a2, rfl, hl2, hc2⟩ := HI'.out.at_ hlt2
          have e7 : (j : Int) < n1 := by omega
          have e8 : (0 : Int) ≤ j := by omega
          generalize el (tl ts k) j = x at *
          have hx : ((x : Int) != x) = false := by simp
          go_wp2
          go_quiet (fail)
          go_wp2
          go_roundw
          case rel => exact ⟨j + 1, by omega, by go_num, _, rfl⟩
          case measure => simp [intOf]; try omega
        · obtain rfl : j = n1 := by omega
          go_wp2
          go_roundw
          case rel => exact ⟨k + 1, by omega, by go_num, _, rfl⟩
          case measure => simp [intOf]; try omega
    · obtain rfl : k = n := by omega
      go_wp2
      go_ret
      exact ⟨rfl, below_drewN (Below.refl _ _) _⟩
end Go.Proofs.Ytihaabdgligbbaa
