/- Pack, Sum; the chapter's examples hold. -/
import Derived.Test.YtchnfahgmceohaaMReads12

namespace Go.Proofs.Ytchnfahgmceohaa
open Go.RowKit
set_option linter.unusedVariables false

set_option maxHeartbeats 1000000 in
theorem Pack_in {A : Option Addr} {n c : Nat} {l : List Int} (w : World) (h : Ints w A n c l) (hp : inP l) (hn : (n : Int) ≤ 10000) :
    Calls Try.prog 21 #[.slice A n c] w (RetZ (packL l) 0 w) := by
  have hcap := h.cap
  have hmax := h.max
  have HP := Lib.hid hp
  have H := Lib.hid h
  have PK := Lib.hid (pack_calls w h hp hn)
  clear h hp
  go_enter Try.func21, Try.ntmps21
  go_wp2
  go_loop [11] (fun i => ∃ k : Nat, k ≤ n ∧ i = .int .i64 k) (fun i => n - (intOf i).toNat)
  case atStart => exact ⟨0, Nat.zero_le _, rfl⟩
  case round =>
    obtain ⟨k, hk, rfl⟩ := hrel
    by_cases hlt : k < n
    · obtain ⟨ad, rfl, hl, hc⟩ := H.out.at_ hlt
      obtain ⟨z0, z1⟩ := inP_el HP.out k
      have z2 : ¬ el l k < -1099511627776 := by omega
      generalize el l k = z at *
      go_wp2
      go_round
      case rel => exact ⟨k + 1, by omega, by go_num⟩
      case measure => simp [intOf]; try omega
    · obtain rfl : k = n := by omega
      go_wp2_with fail
      refine (PK.out).mono ?_
      rintro e w1 ⟨v1, rfl, o1, b1⟩
      have O1 := Lib.hid o1
      have B1 := Lib.hid b1
      clear o1 b1
      go_wp2
      go_returns
      exact ⟨_, rfl, O1.out, B1.out⟩
theorem aSum_calls {A : Option Addr} {n c : Nat} {bs : List Int} (w : World) (h : Byts w A n c bs) (hn : (n : Int) ≤ 1048576) :
    Calls Try.prog 35 #[.slice A n c] w fun e w' => e = .returned (.tuple #[.int .i64 (sumB bs), .int .i64 0]) ∧ w = w' := by
  have hcap := h.cap
  have hmax := h.max
  obtain ⟨b0, b1⟩ := sumB_bd bs
  have sm := sum_calls w h
  generalize sumB bs = s at *
  have SM := Lib.hid sm
  clear sm h
  go_enter Try.func35, Try.ntmps35
  go_wp2_with fail
  refine (SM.out).mono ?_
  rintro e w' ⟨rfl, rfl⟩
  go_wp2
  go_returns
  exact ⟨rfl, rfl⟩

theorem ex1 : packL [5, 5, 5, 4] = [21, 4, 3] := by decide +kernel
theorem ex2 : sumB [] = 7 := by decide +kernel
theorem ex3 : sumB [0] = 218 := by decide +kernel
theorem ex4 : EncV [] = ([82, 65, 1], 0) := by decide +kernel
theorem bel_alloc {B : Nat} {a b c : World} {o : Obj} (h : Below B a b) (k : Below (b.alloc o).heap.size (b.alloc o) c) (hs : B ≤ b.heap.size) : Below B a c := below_then (h.alloc hs o) k (by simp; omega)

set_option maxHeartbeats 2000000 in
set_option maxRecDepth 100000 in
theorem awake_calls (w : World) : Calls Try.prog 9 #[] w fun e w' => e = .returned (.bool true) ∧ Below w.heap.size w w' := by
  have p1 := Pack_in (w.alloc (.cells #[.int .i64 5, .int .i64 5, .int .i64 5, .int .i64 4] 3)) (Ints.lit w [5, 5, 5, 4] (by decide) (by decide)) (by unfold inP; decide) (by decide)
  rw [ex1] at p1
  have P1 := Lib.hid p1
  have s0 := fun W => aSum_calls W (Byts.nil W) (by decide)
  rw [ex2] at s0
  have S0 := Lib.hid s0
  have s1 := fun W => aSum_calls (W.alloc (.cells #[.int .u8 0] 5)) (Byts.lit W [0] (by decide) (by decide)) (by decide)
  rw [ex3] at s1
  have S1 := Lib.hid s1
  have e0 := fun W => Encode_calls W (Sers.nil W) ⟨by decide, by simp⟩
  rw [ex4] at e0
  have E0 := Lib.hid e0
  clear p1 s0 s1 e0
  go_enter Try.func9, Try.ntmps9
  go_wp2_with fail
  refine (P1.out).mono ?_
  rintro e w1 ⟨v1, rfl, o1, b1⟩
  obtain ⟨A1, n1, c1, rfl, y1, -⟩ := o1.ints
  have Y1 := Lib.hid y1
  have B1 := Lib.hid (below_then ((Below.refl w.heap.size w).alloc (Nat.le_refl _) (.cells #[.int .i64 5, .int .i64 5, .int .i64 5, .int .i64 4] 3)) b1 (by simp))
  clear o1 b1 y1
  go_wp2_with fail
  refine (S0.out _).mono ?_
  rintro e w' ⟨rfl, rfl⟩
  go_wp2_with fail
  refine (S1.out _).mono ?_
  rintro e w' ⟨rfl, rfl⟩
  have Y2 := Lib.hid (Y1.out.below ((Below.refl _ _).alloc (Nat.le_refl _) (.cells #[.int .u8 0] 5)))
  have B2 := Lib.hid (B1.out.alloc B1.out.size (.cells #[.int .u8 0] 5))
  clear Y1 B1
  go_wp2_with fail
  refine (E0.out _).mono ?_
  rintro e w3 ⟨v3, rfl, o3, b3⟩
  obtain ⟨A3, n3, c3, rfl, y3, -⟩ := o3.ints
  have Y3 := y3.below ((Below.refl _ _).alloc (Nat.le_refl _) (.cells #[.int .u8 21, .int .u8 4, .int .u8 3] 5))
  have B3 := Lib.hid (below_then B2.out b3 B2.out.size)
  have eq1 := equalB_same (w3.alloc (.cells #[.int .u8 21, .int .u8 4, .int .u8 3] 5)) ((Y2.out.below b3).below ((Below.refl _ _).alloc (Nat.le_refl _) _)) (Byts.lit w3 [21, 4, 3] (by decide) (by decide))
  have eq2 := equalB_same ((w3.alloc (.cells #[.int .u8 21, .int .u8 4, .int .u8 3] 5)).alloc (.cells #[.int .u8 82, .int .u8 65, .int .u8 1] 5)) (Y3.below ((Below.refl _ _).alloc (Nat.le_refl _) _)) (Byts.lit (w3.alloc (.cells #[.int .u8 21, .int .u8 4, .int .u8 3] 5)) [82, 65, 1] (by decide) (by decide))
  rw [World.size_alloc] at eq2
  have EQ1 := Lib.hid eq1
  have EQ2 := Lib.hid eq2
  clear o3 b3 y3 Y3 eq1 eq2
  go_wp2_with fail
  refine (EQ1.out).mono ?_
  rintro e w' ⟨rfl, rfl⟩
  go_wp2_with fail
  refine (EQ2.out).mono ?_
  rintro e w' ⟨rfl, rfl⟩
  go_wp2
  go_ret
  exact ⟨rfl, (B3.out.alloc B3.out.size _).alloc (by have := B3.out.size; simp; omega) _⟩
end Go.Proofs.Ytchnfahgmceohaa

/- Looking through records; which records the laws leave out. -/
namespace Go.Proofs.Ytchnfahgmceohaa
open Go.RowKit
set_option linter.unusedVariables false

/-- Whether a record has more depths than the laws look at. -/
def bigS (s : SerD) : Bool := decide (200 < s.ds.length) && decide (s.ds.length ≤ 10000) || decide (10010 < s.ds.length)
set_option maxHeartbeats 1000000 in
theorem large1_calls {A : Option Addr} {n c : Nat} (s : SerD) (w : World) (h : Ints w A n c s.ds) :
    Calls Try.prog 36 #[serA s.f s.st A n c] w fun e w' => e = .returned (.bool (bigS s)) ∧ Below w.heap.size w w' := by
  unfold bigS
  rw [h.len]
  have hcap := h.cap
  have hmax := h.max
  obtain ⟨s0, s1, s2, sl⟩ := SBox.made w s.f s.st A n c
  have HB := Lib.hid ((Below.refl w.heap.size w).alloc (Nat.le_refl _) (serO s.f s.st A n c))
  generalize s.f = f at *
  generalize s.st = st at *
  clear h
  by_cases h1 : 200 < (n : Int)
  · rw [decide_eq_true (show 200 < n by omega), Bool.true_and]
    by_cases h2 : (n : Int) ≤ 10000
    · rw [decide_eq_true (show n ≤ 10000 by omega), Bool.true_or]
      go_enter Try.func36, Try.ntmps36
      go_wp2
      go_ret
      exact ⟨rfl, HB.out⟩
    · rw [decide_eq_false (show ¬ n ≤ 10000 by omega), Bool.false_or]
      go_enter Try.func36, Try.ntmps36
      go_wp2
      go_ret
      exact ⟨ret_b (by rw [Bool.eq_iff_iff]; simp; try omega), HB.out⟩
  · rw [decide_eq_false (show ¬ 200 < n by omega), Bool.false_and, Bool.false_or]
    go_enter Try.func36, Try.ntmps36
    go_wp2
    go_ret
    exact ⟨ret_b (by rw [Bool.eq_iff_iff]; simp; try omega), HB.out⟩

theorem anyS_take {p : SerD → Bool} {ss : List SerD} (h : ∀ j, j < ss.length → p (sl ss j) = false) : ss.any p = false := by
  rw [List.any_eq_false]
  intro x hx
  obtain ⟨i, hi, rfl⟩ := sl_of_mem hx
  simpa using h i hi
theorem anyS_at {p : SerD → Bool} {ss : List SerD} {k : Nat} (hk : k < ss.length) (h : p (sl ss k) = true) : ss.any p = true :=
  List.any_eq_true.2 ⟨_, sl_mem hk, h⟩
def FoundS (p : SerD → Bool) (ss : List SerD) (w : World) (e : Ending) (w' : World) : Prop := ∃ r : Int, e = .returned (.int .i64 r) ∧ Below w.heap.size w w' ∧ -1 ≤ r ∧ r ≤ 17592186044416 ∧ ss.any p = decide (0 ≤ r)

set_option maxRecDepth 100000 in
set_option maxHeartbeats 2000000 in
theorem indexFunc_sers {A : Option Addr} {n c : Nat} {ss : List SerD} (f : Nat) (p : SerD → Bool) (w : World) (h : Sers w A n c ss)
    (hf : f = 36 ∨ f = 15 ∨ f = 32)
    (hcl : ∀ (s : SerD) A n c W, Ints W A n c s.ds → Calls Try.prog f #[serA s.f s.st A n c] W fun e w' => e = .returned (.bool (p s)) ∧ Below W.heap.size W w') :
    Calls Try.prog 41 #[.slice A n c, .func (.func f) #[] #[]] w (FoundS p ss w) := by
  rcases hf with rfl | rfl | rfl
  all_goals (
    have hcap := h.cap
    have hmax := h.max
    have hfew := h.few
    have HL := Lib.hid h.len
    have H := Lib.hid h
    have HC := Lib.hid hcl
    clear h hcl
    go_enter Try.func41, Try.ntmps41
    go_wp2
    go_loopw [8] (fun i wr => ∃ k : Nat, k ≤ n ∧ i = .int .i64 k ∧ (∀ j, j < k → p (sl ss j) = false) ∧ Below w.heap.size w wr) (fun i _ => n - (intOf i).toNat)
    case atStart => exact ⟨0, Nat.zero_le _, rfl, fun j hj => absurd hj (by omega), Below.refl _ _⟩
    case round =>
      obtain ⟨k, hk, rfl, hno, hbe⟩ := hrel
      generalize wr = wo at *
      have HBE := Lib.hid hbe
      have HN := Lib.hid hno
      clear hno
      by_cases hlt : k < n
      · obtain ⟨ad, rfl, hl, ⟨A1, n1, c1, q0, q1, q2, qi⟩⟩ := (H.out.below hbe).at_ hlt
        have cl := HC.out (sl ss k) A1 n1 c1 wo qi
        have HS : Hid (p (sl ss k) = false → ∀ j, j < k + 1 → p (sl ss j) = false) := Lib.hid fun h j hj => by
          by_cases hjk : j = k
          · subst hjk; exact h
          · exact HN.out j (by omega)
        have HY : Hid (p (sl ss k) = true → ss.any p = true) := Lib.hid fun h => anyS_at (by rw [HL.out]; exact hlt) h
        generalize p (sl ss k) = q at *
        have CL := Lib.hid cl
        clear cl qi hbe
        generalize (sl ss k).f = ff at *
        generalize (sl ss k).st = st at *
        cases q
        · have HX := Lib.hid (HS.out rfl)
          go_wp2_with fail
          refine (CL.out).mono ?_
          rintro e w1 ⟨rfl, b1⟩
          have HB1 := Lib.hid (HBE.out.trans (b1.mono HBE.out.size))
          clear b1
          go_wp2
          go_roundw
          case rel => exact ⟨k + 1, by omega, by go_num, HX.out, HB1.out⟩
          case measure => simp [intOf]; try omega
        · have HY1 := Lib.hid (HY.out rfl)
          go_wp2_with fail
          refine (CL.out).mono ?_
          rintro e w1 ⟨rfl, b1⟩
          have HB1 := Lib.hid (HBE.out.trans (b1.mono HBE.out.size))
          clear b1
          go_wp2
          go_ret
          exact ⟨k, rfl, HB1.out, by omega, by omega, by rw [HY1.out, decide_eq_true (by omega)]⟩
      · obtain rfl : k = n := by omega
        clear hbe
        go_wp2
        go_ret
        exact ⟨-1, rfl, HBE.out, by omega, by omega, by rw [anyS_take (fun j hj => HN.out j (by rw [HL.out] at hj; omega))]; rfl⟩)

theorem containsFunc_sers {A : Option Addr} {n c : Nat} {ss : List SerD} (f : Nat) (p : SerD → Bool) (w : World) (h : Sers w A n c ss)
    (hf : f = 36 ∨ f = 15 ∨ f = 32)
    (hcl : ∀ (s : SerD) A n c W, Ints W A n c s.ds → Calls Try.prog f #[serA s.f s.st A n c] W fun e w' => e = .returned (.bool (p s)) ∧ Below W.heap.size W w') :
    Calls Try.prog 14 #[.slice A n c, .func (.func f) #[] #[]] w fun e w' => e = .returned (.bool (ss.any p)) ∧ Below w.heap.size w w' := by
  have hi := indexFunc_sers f p w h hf hcl
  have HI := Lib.hid hi
  clear hi h hcl hf
  go_enter Try.func14, Try.ntmps14
  go_wp2_with fail
  refine (HI.out).mono ?_
  rintro e w' ⟨r, rfl, hb, hr0, hr1, hr⟩
  have HR := Lib.hid hr
  have HB := Lib.hid hb
  clear hr hb
  go_wp2
  go_ret
  exact ⟨ret_b HR.out.symm, HB.out⟩

/-- Whether there are more records, or depths, than the laws look at. -/
def largeB (ss : List SerD) : Bool := (decide (8 < ss.length) && decide (ss.length ≤ 1000) || decide (1010 < ss.length)) || ss.any bigS
theorem few_of {ss : List SerD} (h : largeB ss = false) : FewR ss := by
  unfold largeB at h
  rw [Bool.or_eq_false_iff, List.any_eq_false] at h
  refine ⟨?_, fun s hs => ?_⟩
  · have := h.1; simp at this; omega
  · have := h.2 s hs; unfold bigS at this; simp at this; omega

set_option maxHeartbeats 1000000 in
theorem large_calls {A : Option Addr} {n c : Nat} {ss : List SerD} (w : World) (h : Sers w A n c ss) :
    Calls Try.prog 10 #[.slice A n c] w fun e w' => e = .returned (.bool (largeB ss)) ∧ Below w.heap.size w w' := by
  have hcf := containsFunc_sers 36 bigS w h (.inl rfl) (fun s A n c W I => large1_calls s W I)
  unfold largeB
  rw [h.len]
  have hcap := h.cap
  have hmax := h.max
  generalize ss.any bigS = q at *
  have HCF := Lib.hid hcf
  clear h hcf
  by_cases h1 : 8 < (n : Int)
  · rw [decide_eq_true (show 8 < n by omega), Bool.true_and]
    by_cases h2 : (n : Int) ≤ 1000
    · rw [decide_eq_true (show n ≤ 1000 by omega), Bool.true_or, Bool.true_or]
      go_enter Try.func10, Try.ntmps10
      go_wp2
      go_ret
      exact ⟨rfl, Below.refl _ _⟩
    · rw [decide_eq_false (show ¬ n ≤ 1000 by omega), Bool.false_or]
      by_cases h3 : 1010 < (n : Int)
      · rw [decide_eq_true (show 1010 < n by omega), Bool.true_or]
        go_enter Try.func10, Try.ntmps10
        go_wp2
        go_ret
        exact ⟨rfl, Below.refl _ _⟩
      · rw [decide_eq_false (show ¬ 1010 < n by omega), Bool.false_or]
        go_enter Try.func10, Try.ntmps10
        go_wp2_with fail
        refine (HCF.out).mono ?_
        rintro e w1 ⟨rfl, b1⟩
        have HB := Lib.hid b1
        clear b1
        go_wp2
        go_ret
        exact ⟨rfl, HB.out⟩
  · rw [decide_eq_false (show ¬ 8 < n by omega), Bool.false_and, Bool.false_or, decide_eq_false (show ¬ 1010 < n by omega), Bool.false_or]
    have h3 : ¬ 1010 < (n : Int) := by omega
    go_enter Try.func10, Try.ntmps10
    go_wp2_with fail
    refine (HCF.out).mono ?_
    rintro e w1 ⟨rfl, b1⟩
    have HB := Lib.hid b1
    clear b1
    go_wp2
    go_ret
    exact ⟨rfl, HB.out⟩
end Go.Proofs.Ytchnfahgmceohaa
