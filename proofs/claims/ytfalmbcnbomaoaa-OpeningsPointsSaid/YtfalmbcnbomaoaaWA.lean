/- Head of both -/
import Derived.Test.YtfalmbcnbomaoaaW9
namespace Go.Proofs.Ytfalmbcnbomaoaa
open Go.Proofs.Ytfalmbcnbomaoaa.DivLaw Go.Proofs.Ytfalmbcnbomaoaa.Open Go.RowKit
set_option linter.unusedVariables false

/-- The least head with a flow; the least setting. -/
def headP (b q : Int) (h : Nat) : Bool := decide (q ≤ wq b h)
def leastH (b q : Int) : Nat := least (headP b q) 0 1048577
def gateP (wd ht q h : Int) (s : Nat) : Bool := decide (q ≤ oq (gateA wd ht s h) h)
def leastS (wd ht q h : Int) : Nat := least (gateP wd ht q h) 0 1001
def foundV (most r : Int) : Int × Int := if most < r then (0, 28) else (r, 0)
def HeadV (b q : Int) : Int × Int := if (1 ≤ b ∧ b ≤ 1048576) ∧ 0 ≤ q ∧ q ≤ 1099511627776 then foundV 1048576 (leastH b q) else (0, 2)
theorem found_no {m r : Int} (h : m < r) : foundV m r = (0, 28) := by unfold foundV; rw [if_pos h]
theorem found_ok {m r : Int} (h : ¬ m < r) : foundV m r = (r, 0) := by unfold foundV; rw [if_neg h]

theorem head_edge (b q : Int) (hb : b ≤ 1048576) : Edge (headP b q) 1048577 (leastH b q) := by
  refine least_edge _ _ fun x y hxy hy hp => ?_
  unfold headP at *
  rw [decide_eq_true_eq] at *
  have := wq_mono b x b y hb (by omega) (Int.le_refl _) (by omega)
  omega
theorem gate_edge (wd ht q h : Int) (h1 : 1 ≤ wd) (h2 : wd ≤ 32768) (h3 : 1 ≤ ht) (h4 : ht ≤ 32768) (h7 : 0 ≤ h) (h8 : h ≤ 1048576) : Edge (gateP wd ht q h) 1001 (leastS wd ht q h) := by
  refine least_edge _ _ fun x y hxy hy hp => ?_
  unfold gateP at *
  rw [decide_eq_true_eq] at *
  have := oq_mono (gateA wd ht x h) h (gateA wd ht y h) h (gateA_range wd ht y h h1 h2 h3 h4 (by omega) (by omega) h7).2.2.2.2.2 h8 (gateA_mono (by omega) (by omega) (by omega) (Int.le_refl _)) (Int.le_refl _)
  omega

set_option maxHeartbeats 4000000 in
theorem Head_calls (b q : Int) (w : World) : Calls Try.prog 23 #[.int .i64 b, .int .i64 q] w fun e w' => e = .returned (.tuple #[.int .i64 (HeadV b q).1, .int .i64 (HeadV b q).2]) ∧ Below w.heap.size w w' := by
  unfold HeadV
  by_cases c1 : 1 ≤ b ∧ b ≤ 1048576
  · have c := fun W => within_yes b 1 1048576 W c1.1 c1.2
    have C := Lib.hid c
    clear c
    by_cases c2 : 0 ≤ q ∧ q ≤ 1099511627776
    · rw [if_pos ⟨c1, c2⟩]
      have d := fun W => within_yes q 0 1099511627776 W c2.1 c2.2
      have D := Lib.hid d
      have hs := Search_head 1048577 (leastH b q) (headP b q) w.heap.size (w.heap.size + 1) (by omega) (head_edge b q c1.2) ((w.alloc (.cells #[.int .i64 b] 3)).alloc (.cells #[.int .i64 q] 3))
        (fun W hW i hi => Head_closure b q i w.heap.size (w.heap.size + 1) (by omega) c1.2 (by omega) (by omega) W (by have := hW.size; simp at this; omega) (by have := hW.size; simp at this; omega)
          ((hW.cell (p := ⟨w.heap.size, 0, none⟩) (by simp; omega)).trans (by go_simp)) ((hW.cell (p := ⟨w.heap.size + 1, 0, none⟩) (by simp)).trans (by go_simp)))
      generalize leastH b q = r at *
      have S := Lib.hid hs
      clear d hs c1 c2
      by_cases cr : 1048576 < (r : Int)
      · rw [found_no cr]
        go_enter Try.func23, Try.ntmps23
        go_wp2_with fail
        refine (C.out _).mono ?_
        rintro e w1 ⟨rfl, rfl⟩
        go_wp2_with fail
        refine (D.out _).mono ?_
        rintro e w1 ⟨rfl, rfl⟩
        go_wp2_with fail
        refine (S.out).mono ?_
        rintro e w1 ⟨rfl, hb1⟩
        go_wp2_with fail
        go_returns
        exact ⟨rfl, Below.trans (by go_grown) (hb1.mono (by simp; omega))⟩
      · rw [found_ok cr]
        go_enter Try.func23, Try.ntmps23
        go_wp2_with fail
        refine (C.out _).mono ?_
        rintro e w1 ⟨rfl, rfl⟩
        go_wp2_with fail
        refine (D.out _).mono ?_
        rintro e w1 ⟨rfl, rfl⟩
        go_wp2_with fail
        refine (S.out).mono ?_
        rintro e w1 ⟨rfl, hb1⟩
        go_wp2_with fail
        go_returns
        exact ⟨rfl, Below.trans (by go_grown) (hb1.mono (by simp; omega))⟩
    · rw [if_neg (fun h => c2 h.2)]
      have d := fun W => within_no q 0 1099511627776 W c2
      have D := Lib.hid d
      clear d c1 c2
      go_enter Try.func23, Try.ntmps23
      go_wp2_with fail
      refine (C.out _).mono ?_
      rintro e w1 ⟨rfl, rfl⟩
      go_wp2_with fail
      refine (D.out _).mono ?_
      rintro e w1 ⟨rfl, rfl⟩
      go_wp2_with fail
      go_returns
      exact ⟨rfl, by go_grown⟩
  · rw [if_neg (fun h => c1 h.1)]
    have c := fun W => within_no b 1 1048576 W c1
    have C := Lib.hid c
    clear c c1
    go_enter Try.func23, Try.ntmps23
    go_wp2_with fail
    refine (C.out _).mono ?_
    rintro e w1 ⟨rfl, rfl⟩
    go_wp2_with fail
    go_returns
    exact ⟨rfl, by go_grown⟩

set_option maxHeartbeats 4000000 in
theorem Head_ref_in (b q : Int) (c0 : 1 ≤ b) (c1 : b ≤ 1048576) (c2 : 0 ≤ q) (c3 : q ≤ 1099511627776) (w : World) : Calls Try.prog 24 #[.int .i64 b, .int .i64 q] w fun e w' => e = .returned (.tuple #[.int .i64 (HeadV b q).1, .int .i64 (HeadV b q).2]) ∧ Below w.heap.size w w' := by
  rw [show HeadV b q = foundV 1048576 (leastH b q) from if_pos ⟨⟨c0, c1⟩, c2, c3⟩]
  have hE := head_edge b q c1
  generalize leastH b q = r at *
  have E := Lib.hid hE
  have d0 : ¬ b < 1 := by omega
  have d1 : ¬ 1048576 < b := by omega
  have d2 : ¬ q < 0 := by omega
  have d3 : ¬ 1099511627776 < q := by omega
  clear hE
  go_enter Try.func24, Try.ntmps24
  go_wp2_with fail
  go_loopw [6, 7] (fun s6 s7 wr => ∃ lo hi : Nat, s6 = .int .i64 lo ∧ s7 = .int .i64 hi ∧ Hid (lo ≤ r ∧ r ≤ hi ∧ hi ≤ 1048577) ∧ Below w.heap.size w wr) (fun s6 s7 _ => (intOf s7).toNat - (intOf s6).toNat)
  case atStart => exact ⟨0, 1048577, rfl, rfl, Lib.hid ⟨Nat.zero_le _, E.out.1, Nat.le_refl _⟩, Below.refl _ _⟩
  case round =>
    obtain ⟨lo, hi, rfl, rfl, hI, hbw⟩ := hrel
    have hhi : (hi : Int) ≤ 1048577 := by have := hI.out; omega
    by_cases c : (lo : Int) < (hi : Int)
    · obtain ⟨m, hm⟩ : ∃ m, m = (lo + hi) / 2 := ⟨_, rfl⟩
      have em : ((lo : Int) + (hi : Int)) / 2 = (m : Int) := by omega
      have m1 : (lo : Int) ≤ m := by omega
      have m2 : (m : Int) < hi := by omega
      have hc := fun W => Weir_ref b m W
      rw [WeirV_in c0 c1 (by omega) (by omega)] at hc
      by_cases hp : q ≤ wq b m
      · have hl : Hid (r ≤ m) := Lib.hid (by
          rcases Nat.lt_or_ge m r with h | h
          · have := E.out.2.1 m h
            unfold headP at this
            rw [decide_eq_false_iff_not] at this
            exact absurd hp this
          · exact h)
        by_cases hbig : 1099511627776 < wq b m
        · rw [flowV_no hbig] at hc
          have C := Lib.hid hc
          clear hc hp hm hbig c0 c1 c2 c3
          go_wp2_with fail
          refine (C.out _).mono ?_
          rintro e w1 ⟨rfl, hb1⟩
          go_wp2_with fail
          go_roundw
          case rel => exact ⟨lo, m, rfl, rfl, Lib.hid (by have := hI.out; have := hl.out; omega), hbw.trans (hb1.mono hbw.size)⟩
          case measure => simp [intOf]; omega
        · rw [flowV_ok hbig] at hc
          generalize wq b m = x at *
          have C := Lib.hid hc
          clear hc hm hbig c0 c1 c2 c3
          go_wp2_with fail
          refine (C.out _).mono ?_
          rintro e w1 ⟨rfl, hb1⟩
          go_wp2_with fail
          go_roundw
          case rel => exact ⟨lo, m, rfl, rfl, Lib.hid (by have := hI.out; have := hl.out; omega), hbw.trans (hb1.mono hbw.size)⟩
          case measure => simp [intOf]; omega
      · have hl : Hid (m < r) := Lib.hid (by
          rcases Nat.lt_or_ge m r with h | h
          · exact h
          · have := E.out.2.2 m h (by omega)
            unfold headP at this
            rw [decide_eq_true_eq] at this
            exact absurd this hp)
        rw [flowV_ok (by omega)] at hc
        generalize wq b m = x at *
        have C := Lib.hid hc
        clear hc hm c0 c1 c2 c3
        go_wp2_with fail
        refine (C.out _).mono ?_
        rintro e w1 ⟨rfl, hb1⟩
        go_wp2_with fail
        go_roundw
        case rel => exact ⟨m + 1, hi, by go_num, rfl, Lib.hid (by have := hI.out; have := hl.out; omega), hbw.trans (hb1.mono hbw.size)⟩
        case measure => simp [intOf]; omega
    · have hl : Hid (lo = r) := Lib.hid (by have := hI.out; omega)
      by_cases cr : 1048576 < (lo : Int)
      · go_wp2_with fail
        go_returns
        exact ⟨by rw [found_no (show (1048576 : Int) < (r : Int) by have := hl.out; omega)]; rfl, hbw⟩
      · go_wp2_with fail
        go_returns
        exact ⟨by rw [found_ok (show ¬ (1048576 : Int) < (r : Int) by have := hl.out; omega), ← hl.out]; rfl, hbw⟩

theorem Head_ref (b q : Int) (w : World) : Calls Try.prog 24 #[.int .i64 b, .int .i64 q] w fun e w' => e = .returned (.tuple #[.int .i64 (HeadV b q).1, .int .i64 (HeadV b q).2]) ∧ Below w.heap.size w w' := by
  by_cases c0 : 1 ≤ b
  · by_cases c1 : b ≤ 1048576
    · by_cases c2 : 0 ≤ q
      · by_cases c3 : q ≤ 1099511627776
        · exact Head_ref_in b q c0 c1 c2 c3 w
        · rw [show HeadV b q = (0, 2) from if_neg (by omega)]
          have d0 : ¬ b < 1 := by omega
          have d1 : ¬ 1048576 < b := by omega
          have d2 : ¬ q < 0 := by omega
          have d3 : 1099511627776 < q := by omega
          go_enter Try.func24, Try.ntmps24
          go_wp2_with fail
          go_returns
          exact ⟨rfl, Below.refl _ _⟩
      · rw [show HeadV b q = (0, 2) from if_neg (by omega)]
        have d0 : ¬ b < 1 := by omega
        have d1 : ¬ 1048576 < b := by omega
        have d2 : q < 0 := by omega
        go_enter Try.func24, Try.ntmps24
        go_wp2_with fail
        go_returns
        exact ⟨rfl, Below.refl _ _⟩
    · rw [show HeadV b q = (0, 2) from if_neg (by omega)]
      have d0 : ¬ b < 1 := by omega
      have d1 : 1048576 < b := by omega
      go_enter Try.func24, Try.ntmps24
      go_wp2_with fail
      go_returns
      exact ⟨rfl, Below.refl _ _⟩
  · rw [show HeadV b q = (0, 2) from if_neg (by omega)]
    have d0 : b < 1 := by omega
    go_enter Try.func24, Try.ntmps24
    go_wp2_with fail
    go_returns
    exact ⟨rfl, Below.refl _ _⟩
end Go.Proofs.Ytfalmbcnbomaoaa
