/- spans; WeirSpan of both -/
import Derived.Test.YtfalmbcnbomaoaaWB
namespace Go.Proofs.Ytfalmbcnbomaoaa
open Go.Proofs.Ytfalmbcnbomaoaa.DivLaw Go.Proofs.Ytfalmbcnbomaoaa.Open Go.RowKit
set_option linter.unusedVariables false

/-- Whether a span is right; the span between two flows. -/
def validB (lo hi : Int) : Bool := decide (lo ≤ hi) && (decide (-72057594037927936 ≤ lo) && decide (hi ≤ 72057594037927936))
def EndsV (x y : Int × Int) : (Int × Int) × Int := if ¬ x.2 = 0 then ((0, 0), x.2) else if ¬ y.2 = 0 then ((0, 0), y.2) else ((x.1, y.1), 0)

set_option maxHeartbeats 1000000 in
theorem fits_calls (n : Int) (w : World) : Calls Try.prog 62 #[.int .i64 n] w fun e w' => e = .returned (.bool (decide (-72057594037927936 ≤ n) && decide (n ≤ 72057594037927936))) ∧ w = w' := by
  by_cases c1 : n < -72057594037927936
  · rw [decide_eq_false (by omega), Bool.false_and]
    go_enter Try.func62, Try.ntmps62
    go_wp2_with fail
    go_returns
    exact ⟨rfl, rfl⟩
  · rw [decide_eq_true (by omega), Bool.true_and]
    go_enter Try.func62, Try.ntmps62
    go_wp2_with fail
    go_returns
    exact ⟨rfl, rfl⟩


set_option maxHeartbeats 1000000 in
theorem ends_calls (x y : Int × Int) (w : World) : Calls Try.prog 52 #[.int .i64 x.1, .int .i64 x.2, .int .i64 y.1, .int .i64 y.2] w fun e w' => e = .returned (.tuple #[.agg #[.int .i64 (EndsV x y).1.1, .int .i64 (EndsV x y).1.2], .int .i64 (EndsV x y).2]) ∧ Below w.heap.size w w' := by
  obtain ⟨a, e⟩ := x
  obtain ⟨b, f⟩ := y
  unfold EndsV
  by_cases c1 : e = 0
  · rw [if_neg (not_not_intro c1)]
    have k1 : ((e : Int) == 0) = true := by rw [beq_iff_eq]; exact c1
    clear c1
    by_cases c2 : f = 0
    · rw [if_neg (not_not_intro c2)]
      have k2 : ((f : Int) == 0) = true := by rw [beq_iff_eq]; exact c2
      clear c2
      go_enter Try.func52, Try.ntmps52
      go_wp2_with fail
      go_returns
      exact ⟨rfl, by go_grown⟩
    · rw [if_pos c2]
      have k2 : ((f : Int) == 0) = false := by rw [beq_eq_false_iff_ne]; exact c2
      clear c2
      go_enter Try.func52, Try.ntmps52
      go_wp2_with fail
      go_returns
      exact ⟨rfl, by go_grown⟩
  · rw [if_pos c1]
    have k1 : ((e : Int) == 0) = false := by rw [beq_eq_false_iff_ne]; exact c1
    clear c1
    go_enter Try.func52, Try.ntmps52
    go_wp2_with fail
    go_returns
    exact ⟨rfl, by go_grown⟩


set_option maxHeartbeats 1000000 in
theorem ends_ref (x y : Int × Int) (w : World) : Calls Try.prog 53 #[.int .i64 x.1, .int .i64 x.2, .int .i64 y.1, .int .i64 y.2] w fun e w' => e = .returned (.tuple #[.agg #[.int .i64 (EndsV x y).1.1, .int .i64 (EndsV x y).1.2], .int .i64 (EndsV x y).2]) ∧ Below w.heap.size w w' := by
  obtain ⟨a, e⟩ := x
  obtain ⟨b, f⟩ := y
  unfold EndsV
  by_cases c1 : e = 0
  · rw [if_neg (not_not_intro c1)]
    have k1 : ((e : Int) == 0) = true := by rw [beq_iff_eq]; exact c1
    clear c1
    by_cases c2 : f = 0
    · rw [if_neg (not_not_intro c2)]
      have k2 : ((f : Int) == 0) = true := by rw [beq_iff_eq]; exact c2
      clear c2
      go_enter Try.func53, Try.ntmps53
      go_wp2_with fail
      go_returns
      exact ⟨rfl, by go_grown⟩
    · rw [if_pos c2]
      have k2 : ((f : Int) == 0) = false := by rw [beq_eq_false_iff_ne]; exact c2
      clear c2
      go_enter Try.func53, Try.ntmps53
      go_wp2_with fail
      go_returns
      exact ⟨rfl, by go_grown⟩
  · rw [if_pos c1]
    have k1 : ((e : Int) == 0) = false := by rw [beq_eq_false_iff_ne]; exact c1
    clear c1
    go_enter Try.func53, Try.ntmps53
    go_wp2_with fail
    go_returns
    exact ⟨rfl, by go_grown⟩


theorem validB_fits (lo hi : Int) : validB lo hi = (decide (lo ≤ hi) && ((decide (-72057594037927936 ≤ lo) && decide (lo ≤ 72057594037927936)) && (decide (-72057594037927936 ≤ hi) && decide (hi ≤ 72057594037927936)))) := by
  unfold validB
  rw [Bool.eq_iff_iff]
  simp only [Bool.and_eq_true, decide_eq_true_eq]
  omega

set_option maxHeartbeats 1000000 in
theorem Valid_calls (lo hi : Int) (w : World) : Calls Try.prog 51 #[.agg #[.int .i64 lo, .int .i64 hi]] w fun e w' => e = .returned (.bool (validB lo hi)) ∧ Below w.heap.size w w' := by
  rw [validB_fits]
  by_cases c : lo ≤ hi
  · rw [decide_eq_true c, Bool.true_and]
    have c1 := fun W => fits_calls lo W
    have c2 := fun W => fits_calls hi W
    generalize (decide (-72057594037927936 ≤ lo) && decide (lo ≤ 72057594037927936)) = p at *
    generalize (decide (-72057594037927936 ≤ hi) && decide (hi ≤ 72057594037927936)) = q at *
    cases p
    · rw [Bool.false_and]
      have C1 := Lib.hid c1
      clear c1 c2
      go_enter Try.func51, Try.ntmps51
      go_wp2_with fail
      refine (C1.out _).mono ?_
      rintro e w1 ⟨rfl, rfl⟩
      go_wp2_with fail
      go_returns
      exact ⟨rfl, by go_grown⟩
    · rw [Bool.true_and]
      have C1 := Lib.hid c1
      have C2 := Lib.hid c2
      clear c1 c2
      go_enter Try.func51, Try.ntmps51
      go_wp2_with fail
      refine (C1.out _).mono ?_
      rintro e w1 ⟨rfl, rfl⟩
      go_wp2_with fail
      refine (C2.out _).mono ?_
      rintro e w1 ⟨rfl, rfl⟩
      go_wp2_with fail
      go_returns
      exact ⟨rfl, by go_grown⟩
  · rw [decide_eq_false c, Bool.false_and]
    go_enter Try.func51, Try.ntmps51
    go_wp2_with fail
    go_returns
    exact ⟨rfl, by go_grown⟩

set_option maxHeartbeats 1000000 in
theorem Valid_ref (lo hi : Int) (w : World) : Calls Try.prog 35 #[.agg #[.int .i64 lo, .int .i64 hi]] w fun e w' => e = .returned (.bool (validB lo hi)) ∧ Below w.heap.size w w' := by
  unfold validB
  by_cases c : lo ≤ hi
  · rw [decide_eq_true c, Bool.true_and]
    by_cases c1 : lo < -72057594037927936
    · rw [decide_eq_false (by omega), Bool.false_and]
      go_enter Try.func35, Try.ntmps35
      go_wp2_with fail
      go_returns
      exact ⟨rfl, by go_grown⟩
    · rw [decide_eq_true (by omega), Bool.true_and]
      go_enter Try.func35, Try.ntmps35
      go_wp2_with fail
      go_returns
      exact ⟨rfl, by go_grown⟩
  · rw [decide_eq_false c, Bool.false_and]
    go_enter Try.func35, Try.ntmps35
    go_wp2_with fail
    go_returns
    exact ⟨rfl, by go_grown⟩

/-- Block g holds a span. -/
structure AtS (W : World) (g : Nat) (lo hi : Int) : Prop where
  c0 : W.cell? ⟨g, 0, none⟩ = some (.int .i64 lo)
  c1 : W.cell? ⟨g, 1, none⟩ = some (.int .i64 hi)
  z : ∀ j, W.frozen? ⟨g, j, none⟩ = false
  lt : g < W.heap.size
theorem AtS.below {W w1 : World} {g : Nat} {lo hi : Int} (h : AtS W g lo hi) (hb : Below W.heap.size W w1) : AtS w1 g lo hi :=
  ⟨(hb.cell (p := ⟨g, 0, none⟩) h.lt).trans h.c0, (hb.cell (p := ⟨g, 1, none⟩) h.lt).trans h.c1, fun j => (hb.frozen (p := ⟨g, j, none⟩) h.lt).trans (h.z j), Nat.lt_of_lt_of_le h.lt hb.size⟩
theorem AtS.new_ (lo hi : Int) (t : TypeId) (w : World) : AtS (w.alloc (.cells #[.int .i64 lo, .int .i64 hi] t)) w.heap.size lo hi :=
  ⟨by rw [World.cell?_alloc_new]; rfl, by rw [World.cell?_alloc_new]; rfl, fun j => by simp, by simp⟩
theorem AtS.alloc {W : World} {g : Nat} {lo hi : Int} (h : AtS W g lo hi) (o : Obj) : AtS (W.alloc o) g lo hi := h.below ((Below.refl _ _).alloc (Nat.le_refl _) o)
/-- The span of two flows, for right arguments. -/
def SpanOf (v : Bool) (x y : Int × Int) : (Int × Int) × Int := if v = true then EndsV x y else ((0, 0), 1)


set_option maxHeartbeats 4000000 in
theorem WeirSpan_calls (b lo hi : Int) (w : World) : Calls Try.prog 29 #[.int .i64 b, .agg #[.int .i64 lo, .int .i64 hi]] w fun e w' => e = .returned (.tuple #[.agg #[.int .i64 (SpanOf (validB lo hi) (WeirV b lo) (WeirV b hi)).1.1, .int .i64 (SpanOf (validB lo hi) (WeirV b lo) (WeirV b hi)).1.2], .int .i64 (SpanOf (validB lo hi) (WeirV b lo) (WeirV b hi)).2]) ∧ Below w.heap.size w w' := by
  have v := fun W => Valid_calls lo hi W
  have AB := Lib.hid ((AtS.new_ lo hi 46 w).alloc (.cells #[.int .i64 0, .int .i64 0] 46))
  have AR := Lib.hid (AtS.new_ 0 0 46 (w.alloc (.cells #[.int .i64 lo, .int .i64 hi] 46)))
  have hB := (Below.refl w.heap.size w).alloc (Nat.le_refl _) (.cells #[.int .i64 lo, .int .i64 hi] 46) |>.alloc (by simp) (.cells #[.int .i64 0, .int .i64 0] 46)
  unfold SpanOf
  generalize validB lo hi = p at *
  cases p
  · rw [if_neg (by decide)]
    have V := Lib.hid v
    clear v
    go_enter Try.func29, Try.ntmps29
    go_wp2_with fail
    refine (V.out _).mono ?_
    rintro e w1 ⟨rfl, hb1⟩
    obtain ⟨q0, q1, z, lt⟩ := AR.out.below hb1
    simp only [World.size_alloc] at q0 q1 z lt
    go_wp2_with fail
    refine bodyPost_ret (v := .tuple #[.agg #[.int .i64 0, .int .i64 0], .int .i64 1]) (by simp [results, Try.results29, go_sem, q0, q1]) rfl ⟨rfl, ?_⟩
    exact ((hB.trans (hb1.mono hB.size)).setCell (by simp) _).setCell (by simp) _
  · rw [if_pos rfl]
    have c1 := fun W => Weir_calls b lo W
    have c2 := fun W => Weir_calls b hi W
    generalize WeirV b lo = x at *
    generalize WeirV b hi = y at *
    have en := fun W => ends_calls x y W
    generalize EndsV x y = s at *
    obtain ⟨x1, x2⟩ := x
    obtain ⟨y1, y2⟩ := y
    obtain ⟨⟨s1, s2⟩, s3⟩ := s
    have V := Lib.hid v
    have C1 := Lib.hid c1
    have C2 := Lib.hid c2
    have EN := Lib.hid en
    clear v c1 c2 en
    go_enter Try.func29, Try.ntmps29
    go_wp2_with fail
    refine (V.out _).mono ?_
    rintro e w1 ⟨rfl, hb1⟩
    have AB1 := Lib.hid (AB.out.below hb1)
    have AR1 := Lib.hid (AR.out.below hb1)
    obtain ⟨q0, q1, z, lt⟩ := AB1.out
    go_wp2_with fail
    refine (C1.out _).mono ?_
    rintro e w2 ⟨rfl, hb2⟩
    have AB2 := Lib.hid (AB1.out.below hb2)
    have AR2 := Lib.hid (AR1.out.below hb2)
    clear q0 q1 z lt
    obtain ⟨q0, q1, z, lt⟩ := AB2.out
    go_wp2_with fail
    refine (C2.out _).mono ?_
    rintro e w3 ⟨rfl, hb3⟩
    have AR3 := Lib.hid (AR2.out.below hb3)
    clear q0 q1 z lt
    go_wp2_with fail
    refine (EN.out _).mono ?_
    rintro e w4 ⟨rfl, hb4⟩
    obtain ⟨q0, q1, z, lt⟩ := AR3.out.below hb4
    simp only [World.size_alloc] at q0 q1 z lt
    go_wp2_with fail
    refine bodyPost_ret (v := .tuple #[.agg #[.int .i64 s1, .int .i64 s2], .int .i64 s3]) (by simp [results, Try.results29, go_sem, q0, q1]) rfl ⟨rfl, ?_⟩
    exact ((hB.trans ((below_then (below_then (below_then hb1 hb2) hb3) hb4).mono hB.size)).setCell (by simp) _).setCell (by simp) _


set_option maxHeartbeats 4000000 in
theorem WeirSpan_ref (b lo hi : Int) (w : World) : Calls Try.prog 30 #[.int .i64 b, .agg #[.int .i64 lo, .int .i64 hi]] w fun e w' => e = .returned (.tuple #[.agg #[.int .i64 (SpanOf (validB lo hi) (WeirV b lo) (WeirV b hi)).1.1, .int .i64 (SpanOf (validB lo hi) (WeirV b lo) (WeirV b hi)).1.2], .int .i64 (SpanOf (validB lo hi) (WeirV b lo) (WeirV b hi)).2]) ∧ Below w.heap.size w w' := by
  have v := fun W => Valid_ref lo hi W
  have AB := Lib.hid ((AtS.new_ lo hi 46 w).alloc (.cells #[.int .i64 0, .int .i64 0] 46))
  have AR := Lib.hid (AtS.new_ 0 0 46 (w.alloc (.cells #[.int .i64 lo, .int .i64 hi] 46)))
  have hB := (Below.refl w.heap.size w).alloc (Nat.le_refl _) (.cells #[.int .i64 lo, .int .i64 hi] 46) |>.alloc (by simp) (.cells #[.int .i64 0, .int .i64 0] 46)
  unfold SpanOf
  generalize validB lo hi = p at *
  cases p
  · rw [if_neg (by decide)]
    have V := Lib.hid v
    clear v
    go_enter Try.func30, Try.ntmps30
    go_wp2_with fail
    refine (V.out _).mono ?_
    rintro e w1 ⟨rfl, hb1⟩
    obtain ⟨q0, q1, z, lt⟩ := AR.out.below hb1
    simp only [World.size_alloc] at q0 q1 z lt
    go_wp2_with fail
    refine bodyPost_ret (v := .tuple #[.agg #[.int .i64 0, .int .i64 0], .int .i64 1]) (by simp [results, Try.results30, go_sem, q0, q1]) rfl ⟨rfl, ?_⟩
    exact ((hB.trans (hb1.mono hB.size)).setCell (by simp) _).setCell (by simp) _
  · rw [if_pos rfl]
    have c1 := fun W => Weir_ref b lo W
    have c2 := fun W => Weir_ref b hi W
    generalize WeirV b lo = x at *
    generalize WeirV b hi = y at *
    have en := fun W => ends_ref x y W
    generalize EndsV x y = s at *
    obtain ⟨x1, x2⟩ := x
    obtain ⟨y1, y2⟩ := y
    obtain ⟨⟨s1, s2⟩, s3⟩ := s
    have V := Lib.hid v
    have C1 := Lib.hid c1
    have C2 := Lib.hid c2
    have EN := Lib.hid en
    clear v c1 c2 en
    go_enter Try.func30, Try.ntmps30
    go_wp2_with fail
    refine (V.out _).mono ?_
    rintro e w1 ⟨rfl, hb1⟩
    have AB1 := Lib.hid (AB.out.below hb1)
    have AR1 := Lib.hid (AR.out.below hb1)
    obtain ⟨q0, q1, z, lt⟩ := AB1.out
    go_wp2_with fail
    refine (C1.out _).mono ?_
    rintro e w2 ⟨rfl, hb2⟩
    have AB2 := Lib.hid (AB1.out.below hb2)
    have AR2 := Lib.hid (AR1.out.below hb2)
    clear q0 q1 z lt
    obtain ⟨q0, q1, z, lt⟩ := AB2.out
    go_wp2_with fail
    refine (C2.out _).mono ?_
    rintro e w3 ⟨rfl, hb3⟩
    have AR3 := Lib.hid (AR2.out.below hb3)
    clear q0 q1 z lt
    go_wp2_with fail
    refine (EN.out _).mono ?_
    rintro e w4 ⟨rfl, hb4⟩
    obtain ⟨q0, q1, z, lt⟩ := AR3.out.below hb4
    simp only [World.size_alloc] at q0 q1 z lt
    go_wp2_with fail
    refine bodyPost_ret (v := .tuple #[.agg #[.int .i64 s1, .int .i64 s2], .int .i64 s3]) (by simp [results, Try.results30, go_sem, q0, q1]) rfl ⟨rfl, ?_⟩
    exact ((hB.trans ((below_then (below_then (below_then hb1 hb2) hb3) hb4).mono hB.size)).setCell (by simp) _).setCell (by simp) _
end Go.Proofs.Ytfalmbcnbomaoaa
