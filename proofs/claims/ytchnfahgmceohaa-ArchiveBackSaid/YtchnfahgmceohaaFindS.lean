/- Looking through records; which records the laws leave out. -/
import Derived.Test.YtchnfahgmceohaaEncR
namespace Go.Proofs.Ytchnfahgmceohaa
open Go.RowKit
set_option linter.unusedVariables false

/-- Whether a record has more depths than the laws look at. -/
def bigS (s : SerD) : Bool := decide (200 < s.ds.length) && decide (s.ds.length ≤ 10000) || decide (10010 < s.ds.length)
set_option maxHeartbeats 1000000 in
theorem large1_calls {A : Option Addr} {n c : Nat} (s : SerD) (w : World) (h : Ints w A n c s.ds) :
    Calls Try.prog 36 #[serA s.f s.st A n c] w fun e w' => e = .returned (.bool (bigS s)) ∧ Below w.heap.size w w' := by
  unfold bigS
  rw [h.len]
  have hcap := h.cap
  have hmax := h.max
  obtain ⟨s0, s1, s2, sl⟩ := SBox.made w s.f s.st A n c
  have HB := Lib.hid ((Below.refl w.heap.size w).alloc (Nat.le_refl _) (serO s.f s.st A n c))
  generalize s.f = f at *
  generalize s.st = st at *
  clear h
  by_cases h1 : 200 < (n : Int)
  · rw [decide_eq_true (show 200 < n by omega), Bool.true_and]
    by_cases h2 : (n : Int) ≤ 10000
    · rw [decide_eq_true (show n ≤ 10000 by omega), Bool.true_or]
      go_enter Try.func36, Try.ntmps36
      go_wp2
      go_ret
      exact ⟨rfl, HB.out⟩
    · rw [decide_eq_false (show ¬ n ≤ 10000 by omega), Bool.false_or]
      go_enter Try.func36, Try.ntmps36
      go_wp2
      go_ret
      exact ⟨ret_b (by rw [Bool.eq_iff_iff]; simp; try omega), HB.out⟩
  · rw [decide_eq_false (show ¬ 200 < n by omega), Bool.false_and, Bool.false_or]
    go_enter Try.func36, Try.ntmps36
    go_wp2
    go_ret
    exact ⟨ret_b (by rw [Bool.eq_iff_iff]; simp; try omega), HB.out⟩

theorem anyS_take {p : SerD → Bool} {ss : List SerD} (h : ∀ j, j < ss.length → p (sl ss j) = false) : ss.any p = false := by
  rw [List.any_eq_false]
  intro x hx
  obtain ⟨i, hi, rfl⟩ := sl_of_mem hx
  simpa using h i hi
theorem anyS_at {p : SerD → Bool} {ss : List SerD} {k : Nat} (hk : k < ss.length) (h : p (sl ss k) = true) : ss.any p = true :=
  List.any_eq_true.2 ⟨_, sl_mem hk, h⟩
def FoundS (p : SerD → Bool) (ss : List SerD) (w : World) (e : Ending) (w' : World) : Prop := ∃ r : Int, e = .returned (.int .i64 r) ∧ Below w.heap.size w w' ∧ -1 ≤ r ∧ r ≤ 17592186044416 ∧ ss.any p = decide (0 ≤ r)

set_option maxRecDepth 100000 in
set_option maxHeartbeats 2000000 in
theorem indexFunc_sers {A : Option Addr} {n c : Nat} {ss : List SerD} (f : Nat) (p : SerD → Bool) (w : World) (h : Sers w A n c ss)
    (hf : f = 36 ∨ f = 15 ∨ f = 32)
    (hcl : ∀ (s : SerD) A n c W, Ints W A n c s.ds → Calls Try.prog f #[serA s.f s.st A n c] W fun e w' => e = .returned (.bool (p s)) ∧ Below W.heap.size W w') :
    Calls Try.prog 41 #[.slice A n c, .func (.func f) #[] #[]] w (FoundS p ss w) := by
  rcases hf with rfl | rfl | rfl
  all_goals (
    have hcap := h.cap
    have hmax := h.max
    have hfew := h.few
    have HL := Lib.hid h.len
    have H := Lib.hid h
    have HC := Lib.hid hcl
    clear h hcl
    go_enter Try.func41, Try.ntmps41
    go_wp2
    go_loopw [8] (fun i wr => ∃ k : Nat, k ≤ n ∧ i = .int .i64 k ∧ (∀ j, j < k → p (sl ss j) = false) ∧ Below w.heap.size w wr) (fun i _ => n - (intOf i).toNat)
    case atStart => exact ⟨0, Nat.zero_le _, rfl, fun j hj => absurd hj (by omega), Below.refl _ _⟩
    case round =>
      obtain ⟨k, hk, rfl, hno, hbe⟩ := hrel
      generalize wr = wo at *
      have HBE := Lib.hid hbe
      have HN := Lib.hid hno
      clear hno
      by_cases hlt : k < n
      · obtain ⟨ad, rfl, hl, ⟨A1, n1, c1, q0, q1, q2, qi⟩⟩ := (H.out.below hbe).at_ hlt
        have cl := HC.out (sl ss k) A1 n1 c1 wo qi
        have HS : Hid (p (sl ss k) = false → ∀ j, j < k + 1 → p (sl ss j) = false) := Lib.hid fun h j hj => by
          by_cases hjk : j = k
          · subst hjk; exact h
          · exact HN.out j (by omega)
        have HY : Hid (p (sl ss k) = true → ss.any p = true) := Lib.hid fun h => anyS_at (by rw [HL.out]; exact hlt) h
        generalize p (sl ss k) = q at *
        have CL := Lib.hid cl
        clear cl qi hbe
        generalize (sl ss k).f = ff at *
        generalize (sl ss k).st = st at *
        cases q
        · have HX := Lib.hid (HS.out rfl)
          go_wp2_with fail
          refine (CL.out).mono ?_
          rintro e w1 ⟨rfl, b1⟩
          have HB1 := Lib.hid (HBE.out.trans (b1.mono HBE.out.size))
          clear b1
          go_wp2
          go_roundw
          case rel => exact ⟨k + 1, by omega, by go_num, HX.out, HB1.out⟩
          case measure => simp [intOf]; try omega
        · have HY1 := Lib.hid (HY.out rfl)
          go_wp2_with fail
          refine (CL.out).mono ?_
          rintro e w1 ⟨rfl, b1⟩
          have HB1 := Lib.hid (HBE.out.trans (b1.mono HBE.out.size))
          clear b1
          go_wp2
          go_ret
          exact ⟨k, rfl, HB1.out, by omega, by omega, by rw [HY1.out, decide_eq_true (by omega)]⟩
      · obtain rfl : k = n := by omega
        clear hbe
        go_wp2
        go_ret
        exact ⟨-1, rfl, HBE.out, by omega, by omega, by rw [anyS_take (fun j hj => HN.out j (by rw [HL.out] at hj; omega))]; rfl⟩)

theorem containsFunc_sers {A : Option Addr} {n c : Nat} {ss : List SerD} (f : Nat) (p : SerD → Bool) (w : World) (h : Sers w A n c ss)
    (hf : f = 36 ∨ f = 15 ∨ f = 32)
    (hcl : ∀ (s : SerD) A n c W, Ints W A n c s.ds → Calls Try.prog f #[serA s.f s.st A n c] W fun e w' => e = .returned (.bool (p s)) ∧ Below W.heap.size W w') :
    Calls Try.prog 14 #[.slice A n c, .func (.func f) #[] #[]] w fun e w' => e = .returned (.bool (ss.any p)) ∧ Below w.heap.size w w' := by
  have hi := indexFunc_sers f p w h hf hcl
  have HI := Lib.hid hi
  clear hi h hcl hf
  go_enter Try.func14, Try.ntmps14
  go_wp2_with fail
  refine (HI.out).mono ?_
  rintro e w' ⟨r, rfl, hb, hr0, hr1, hr⟩
  have HR := Lib.hid hr
  have HB := Lib.hid hb
  clear hr hb
  go_wp2
  go_ret
  exact ⟨ret_b HR.out.symm, HB.out⟩

/-- Whether there are more records, or depths, than the laws look at. -/
def largeB (ss : List SerD) : Bool := (decide (8 < ss.length) && decide (ss.length ≤ 1000) || decide (1010 < ss.length)) || ss.any bigS
theorem few_of {ss : List SerD} (h : largeB ss = false) : FewR ss := by
  unfold largeB at h
  rw [Bool.or_eq_false_iff, List.any_eq_false] at h
  refine ⟨?_, fun s hs => ?_⟩
  · have := h.1; simp at this; omega
  · have := h.2 s hs; unfold bigS at this; simp at this; omega

set_option maxHeartbeats 1000000 in
theorem large_calls {A : Option Addr} {n c : Nat} {ss : List SerD} (w : World) (h : Sers w A n c ss) :
    Calls Try.prog 10 #[.slice A n c] w fun e w' => e = .returned (.bool (largeB ss)) ∧ Below w.heap.size w w' := by
  have hcf := containsFunc_sers 36 bigS w h (.inl rfl) (fun s A n c W I => large1_calls s W I)
  unfold largeB
  rw [h.len]
  have hcap := h.cap
  have hmax := h.max
  generalize ss.any bigS = q at *
  have HCF := Lib.hid hcf
  clear h hcf
  by_cases h1 : 8 < (n : Int)
  · rw [decide_eq_true (show 8 < n by omega), Bool.true_and]
    by_cases h2 : (n : Int) ≤ 1000
    · rw [decide_eq_true (show n ≤ 1000 by omega), Bool.true_or, Bool.true_or]
      go_enter Try.func10, Try.ntmps10
      go_wp2
      go_ret
      exact ⟨rfl, Below.refl _ _⟩
    · rw [decide_eq_false (show ¬ n ≤ 1000 by omega), Bool.false_or]
      by_cases h3 : 1010 < (n : Int)
      · rw [decide_eq_true (show 1010 < n by omega), Bool.true_or]
        go_enter Try.func10, Try.ntmps10
        go_wp2
        go_ret
        exact ⟨rfl, Below.refl _ _⟩
      · rw [decide_eq_false (show ¬ 1010 < n by omega), Bool.false_or]
        go_enter Try.func10, Try.ntmps10
        go_wp2_with fail
        refine (HCF.out).mono ?_
        rintro e w1 ⟨rfl, b1⟩
        have HB := Lib.hid b1
        clear b1
        go_wp2
        go_ret
        exact ⟨rfl, HB.out⟩
  · rw [decide_eq_false (show ¬ 8 < n by omega), Bool.false_and, Bool.false_or, decide_eq_false (show ¬ 1010 < n by omega), Bool.false_or]
    have h3 : ¬ 1010 < (n : Int) := by omega
    go_enter Try.func10, Try.ntmps10
    go_wp2_with fail
    refine (HCF.out).mono ?_
    rintro e w1 ⟨rfl, b1⟩
    have HB := Lib.hid b1
    clear b1
    go_wp2
    go_ret
    exact ⟨rfl, HB.out⟩
end Go.Proofs.Ytchnfahgmceohaa
