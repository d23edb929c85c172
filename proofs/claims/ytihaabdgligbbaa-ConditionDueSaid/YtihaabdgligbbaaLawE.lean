/- The law ConditionDue returns true. -/
import Derived.Test.YtihaabdgligbbaaAwake
import Derived.Test.YtihaabdgligbbaaDueCl
namespace Go.Proofs.Ytihaabdgligbbaa
open Go.RowKit
set_option linter.unusedVariables false

theorem given_len {ts : List (List Int)} {l : List Int} {A A' : Option Addr} {n c n' c' : Nat} {w : World} (h : Tab w A n c ts) (h' : Ints w A' n' c' l) (e : givenE ts l = 0) : n = n' ∧ 1 ≤ n' ∧ n' ≤ 8 := by
  have ok := yearOk_of e
  have h1 := ok.len
  rw [h.len, h'.len] at h1
  have h2 := stockB_parts ok.s
  rw [h'.len] at h2
  omega

set_option maxHeartbeats 2000000 in
set_option maxRecDepth 100000 in
theorem DueLaw_out {A A' : Option Addr} {n c n' c' : Nat} {ts : List (List Int)} {l : List Int} (ga pa ma : Int) (w : World) (h : Tab w A n c ts) (h' : Ints w A' n' c' l) (e : ¬ givenE ts l = 0) :
    Calls Try.prog 4 #[.slice A n c, .slice A' n' c', .int .u8 ga, .int .u16 pa, .int .u16 ma] w fun e w' => e = .returned (.bool true) ∧ Below w.heap.size w w' := by
  have e' : ((givenE ts l : Int) != 0) = true := by simp [e]
  have gv := fun W (I : Tab W A n c ts) (I' : Ints W A' n' c' l) => Given_ref50 W I I'
  generalize givenE ts l = x at *
  have H := Lib.hid h
  have H' := Lib.hid h'
  have GV := Lib.hid gv
  clear h h' gv e
  go_enter Try.func4, Try.ntmps4
  go_wp2_with fail
  refine (awake_calls _).mono ?_
  rintro e w1 ⟨rfl, b1⟩
  have T1 := Lib.hid (((H.out.alloc (.cells #[.slice A n c] 22)).alloc (.cells #[.slice A' n' c'] 23)).below b1)
  have I1 := Lib.hid (((H'.out.alloc (.cells #[.slice A n c] 22)).alloc (.cells #[.slice A' n' c'] 23)).below b1)
  have X1 := ((Box.made w (.slice A n c) 22).alloc (.cells #[.slice A' n' c'] 23)).below b1
  have Y1 := (Box.made (w.alloc (.cells #[.slice A n c] 22)) (.slice A' n' c') 23).below b1
  rw [World.size_alloc] at Y1
  have B1 := Lib.hid (below_then (((Below.refl w.heap.size w).alloc (Nat.le_refl _) (.cells #[.slice A n c] 22)).alloc (by simp) (.cells #[.slice A' n' c'] 23)) b1 (by simp; omega))
  have x1 := X1.c
  have y1 := Y1.c
  clear b1 X1 Y1
  go_wp2_with fail
  refine (GV.out _ T1.out I1.out).mono ?_
  rintro e w2 ⟨rfl, rfl⟩
  go_wp2
  go_ret
  exact ⟨rfl, B1.out⟩

/-- The numbers that the law makes of its arguments. -/
structure DueNums (n' : Nat) (ga pa ma : Int) (g : Nat) (p m q : Int) : Prop where
  ga0 : 0 ≤ ga
  ga1 : ga ≤ 255
  pa0 : 0 ≤ pa
  pa1 : pa ≤ 65535
  ma0 : 0 ≤ ma
  ma1 : ma ≤ 65535
  hg : ga % (n' : Int) = (g : Int)
  hgn : g < n'
  hp : pa % 1001 = p
  hp0 : 0 ≤ p
  hp1 : p ≤ 1000
  hm : ma % 100 = m
  hm0 : 0 ≤ m
  hm1 : m ≤ 99
  hq : min (1000 : Int) (p + m) = q
  hq0 : 0 ≤ q
  hq1 : q ≤ 1000
  hpq : p ≤ q
theorem dueNums {n' : Nat} {ga pa ma : Int} (hn : 1 ≤ n') (h1 : 0 ≤ ga ∧ ga ≤ 255) (h2 : 0 ≤ pa ∧ pa ≤ 65535) (h3 : 0 ≤ ma ∧ ma ≤ 65535) : ∃ g p m q, DueNums n' ga pa ma g p m q := by
  have a1 := Int.emod_nonneg ga (show (n' : Int) ≠ 0 by omega)
  have a2 := Int.emod_lt_of_pos ga (show 0 < (n' : Int) by omega)
  refine ⟨(ga % (n' : Int)).toNat, pa % 1001, ma % 100, min 1000 (pa % 1001 + ma % 100), ⟨by omega, by omega, by omega, by omega, by omega, by omega, by omega, by omega, rfl, by omega, by omega, rfl, by omega, by omega, rfl, by omega, by omega, by omega⟩⟩

set_option maxHeartbeats 2000000 in
set_option maxRecDepth 100000 in
theorem DueLaw_zok {A A' : Option Addr} {n c n' c' : Nat} {ts : List (List Int)} {l : List Int} (ga pa ma : Int) (w : World) (h : Tab w A n c ts) (h' : Ints w A' n' c' l) (e : givenE ts l = 0) (g : Nat) (p m q : Int) (N : DueNums n' ga pa ma g p m q) (dp : dueFrom ts l g p 201 0 = (0, 0)) (db : dueB ts l g p 0 = true) (j2 : Nat) (hj2 : (j2 : Int) ≤ 200) (dq : dueFrom ts l g q 201 0 = ((j2 : Int), 0)) :
    Calls Try.prog 4 #[.slice A n c, .slice A' n' c', .int .u8 ga, .int .u16 pa, .int .u16 ma] w fun e w' => e = .returned (.bool true) ∧ Below w.heap.size w w' := by
  obtain ⟨-, hn1, hn8⟩ := given_len h h' e
  obtain ⟨ga0, ga1, pa0, pa1, ma0, ma1, hg, hgn, hp, hp0, hp1, hm, hm0, hm1, hq, hq0, hq1, hpq⟩ := N
  have gv := fun W (I : Tab W A n c ts) (I' : Ints W A' n' c' l) => Given_ref50 W I I'
  rw [e] at gv
  have en := fun (y : Nat) (hy : (y : Int) ≤ 200) (bt bs bg bp : Nat) (W : World) (ct : Box W bt (.slice A n c)) (cs : Box W bs (.slice A' n' c')) (cg : Box W bg (.int .i64 (1 + (g : Int)))) (cp : Box W bp (.int .i64 p)) (I : Tab W A n c ts) (I' : Ints W A' n' c' l) => enough_calls y g bt bs bg bp p W ct cs cg cp I I' e hgn hp0 hp1 hy
  have d1 := fun W (I : Tab W A n c ts) (I' : Ints W A' n' c' l) => Due_calls (1 + (g : Int)) p W I I'
  have d2 := fun W (I : Tab W A n c ts) (I' : Ints W A' n' c' l) => Due_calls (1 + (g : Int)) q W I I'
  unfold DueV at d1 d2
  rw [if_pos e, if_pos (by rw [h'.len]; omega), show (1 + (g : Int)).toNat - 1 = g by omega] at d1 d2
  rw [dp] at d1
  rw [dq] at d2
  have H := Lib.hid h
  have H' := Lib.hid h'
  have GV := Lib.hid gv
  have EN := Lib.hid en
  have D1 := Lib.hid d1
  have D2 := Lib.hid d2
  have hz : ((n' : Int) == 0) = false := by simp; omega
  have hz1 : 0 < n' := by omega
  have hcap' := h'.cap
  have hmax' := h'.max
  have HD0 := Lib.hid db
  clear db
  clear h h' gv e d1 d2 en dp dq
  go_enter Try.func4, Try.ntmps4
  go_wp2_with fail
  refine (awake_calls _).mono ?_
  rintro e w1 ⟨rfl, b1⟩
  have T1 := Lib.hid (((H.out.alloc (.cells #[.slice A n c] 22)).alloc (.cells #[.slice A' n' c'] 23)).below b1)
  have I1 := Lib.hid (((H'.out.alloc (.cells #[.slice A n c] 22)).alloc (.cells #[.slice A' n' c'] 23)).below b1)
  have X1 := Lib.hid (((Box.made w (.slice A n c) 22).alloc (.cells #[.slice A' n' c'] 23)).below b1)
  have y1 := (Box.made (w.alloc (.cells #[.slice A n c] 22)) (.slice A' n' c') 23).below b1
  rw [World.size_alloc] at y1
  have Y1 := Lib.hid y1
  have B1 := Lib.hid (below_then (((Below.refl w.heap.size w).alloc (Nat.le_refl _) (.cells #[.slice A n c] 22)).alloc (by simp) (.cells #[.slice A' n' c'] 23)) b1 (by simp; omega))
  clear b1 y1
  have x1 := X1.out.c
  have y1 := Y1.out.c
  have xl := X1.out.lt
  have yl := Y1.out.lt
  go_wp2_with fail
  refine (GV.out _ T1.out I1.out).mono ?_
  rintro e w2 ⟨rfl, rfl⟩
  have T2 := Lib.hid ((T1.out.alloc (.cells #[.int .i64 (1 + (g : Int))] 3)).alloc (.cells #[.int .i64 p] 3))
  have I2 := Lib.hid ((I1.out.alloc (.cells #[.int .i64 (1 + (g : Int))] 3)).alloc (.cells #[.int .i64 p] 3))
  have X2 := Lib.hid ((X1.out.alloc (.cells #[.int .i64 (1 + (g : Int))] 3)).alloc (.cells #[.int .i64 p] 3))
  have Y2 := Lib.hid ((Y1.out.alloc (.cells #[.int .i64 (1 + (g : Int))] 3)).alloc (.cells #[.int .i64 p] 3))
  have Z2 := Lib.hid ((Box.made w1 (.int .i64 (1 + (g : Int))) 3).alloc (.cells #[.int .i64 p] 3))
  have v2 := (Box.made (w1.alloc (.cells #[.int .i64 (1 + (g : Int))] 3)) (.int .i64 p) 3)
  rw [World.size_alloc] at v2
  have V2 := Lib.hid v2
  have B2 := Lib.hid ((B1.out.alloc B1.out.size (.cells #[.int .i64 (1 + (g : Int))] 3)).alloc (by have := B1.out.size; simp; omega) (.cells #[.int .i64 p] 3))
  clear v2
  go_wp2_with fail
  refine (D1.out _ T2.out I2.out).mono ?_
  rintro e w3 ⟨rfl, b3⟩
  have T3 := Lib.hid (T2.out.below b3)
  have I3 := Lib.hid (I2.out.below b3)
  have X3 := Lib.hid (X2.out.below b3)
  have Y3 := Lib.hid (Y2.out.below b3)
  have Z3 := Lib.hid (Z2.out.below b3)
  have V3 := Lib.hid (V2.out.below b3)
  have B3 := Lib.hid (below_then B2.out b3 B2.out.size)
  clear b3 x1 y1 xl yl
  have x3 := X3.out.c
  have y3 := Y3.out.c
  have z3 := Z3.out.c
  have v3 := V3.out.c
  go_wp2_with fail
  refine (D2.out _ T3.out I3.out).mono ?_
  rintro e w4 ⟨rfl, b4⟩
  have T4 := Lib.hid (T3.out.below b4)
  have I4 := Lib.hid (I3.out.below b4)
  have X4 := Lib.hid (X3.out.below b4)
  have Y4 := Lib.hid (Y3.out.below b4)
  have Z4 := Lib.hid (Z3.out.below b4)
  have V4 := Lib.hid (V3.out.below b4)
  have B4 := Lib.hid (below_then B3.out b4 B3.out.size)
  clear b4 x3 y3 z3 v3
  have en1 := EN.out 0 (by omega) _ _ _ _ _ X4.out Y4.out Z4.out V4.out T4.out I4.out
  rw [HD0.out] at en1
  have EN1 := Lib.hid en1
  clear en1
  go_wp2_with fail
  refine (EN1.out).mono ?_
  rintro e w5 ⟨rfl, b5⟩
  have T5 := Lib.hid (T4.out.below b5)
  have I5 := Lib.hid (I4.out.below b5)
  have X5 := Lib.hid (X4.out.below b5)
  have Y5 := Lib.hid (Y4.out.below b5)
  have Z5 := Lib.hid (Z4.out.below b5)
  have V5 := Lib.hid (V4.out.below b5)
  have B5 := Lib.hid (below_then B4.out b5 B4.out.size)
  clear b5
  go_wp2
  go_ret
  exact ⟨rfl, B5.out⟩


set_option maxHeartbeats 2000000 in
set_option maxRecDepth 100000 in
theorem DueLaw_zno {A A' : Option Addr} {n c n' c' : Nat} {ts : List (List Int)} {l : List Int} (ga pa ma : Int) (w : World) (h : Tab w A n c ts) (h' : Ints w A' n' c' l) (e : givenE ts l = 0) (g : Nat) (p m q : Int) (N : DueNums n' ga pa ma g p m q) (dp : dueFrom ts l g p 201 0 = (0, 0)) (db : dueB ts l g p 0 = true) (dq : dueFrom ts l g q 201 0 = (0, 12)) :
    Calls Try.prog 4 #[.slice A n c, .slice A' n' c', .int .u8 ga, .int .u16 pa, .int .u16 ma] w fun e w' => e = .returned (.bool true) ∧ Below w.heap.size w w' := by
  obtain ⟨-, hn1, hn8⟩ := given_len h h' e
  obtain ⟨ga0, ga1, pa0, pa1, ma0, ma1, hg, hgn, hp, hp0, hp1, hm, hm0, hm1, hq, hq0, hq1, hpq⟩ := N
  have gv := fun W (I : Tab W A n c ts) (I' : Ints W A' n' c' l) => Given_ref50 W I I'
  rw [e] at gv
  have en := fun (y : Nat) (hy : (y : Int) ≤ 200) (bt bs bg bp : Nat) (W : World) (ct : Box W bt (.slice A n c)) (cs : Box W bs (.slice A' n' c')) (cg : Box W bg (.int .i64 (1 + (g : Int)))) (cp : Box W bp (.int .i64 p)) (I : Tab W A n c ts) (I' : Ints W A' n' c' l) => enough_calls y g bt bs bg bp p W ct cs cg cp I I' e hgn hp0 hp1 hy
  have d1 := fun W (I : Tab W A n c ts) (I' : Ints W A' n' c' l) => Due_calls (1 + (g : Int)) p W I I'
  have d2 := fun W (I : Tab W A n c ts) (I' : Ints W A' n' c' l) => Due_calls (1 + (g : Int)) q W I I'
  unfold DueV at d1 d2
  rw [if_pos e, if_pos (by rw [h'.len]; omega), show (1 + (g : Int)).toNat - 1 = g by omega] at d1 d2
  rw [dp] at d1
  rw [dq] at d2
  have H := Lib.hid h
  have H' := Lib.hid h'
  have GV := Lib.hid gv
  have EN := Lib.hid en
  have D1 := Lib.hid d1
  have D2 := Lib.hid d2
  have hz : ((n' : Int) == 0) = false := by simp; omega
  have hz1 : 0 < n' := by omega
  have hcap' := h'.cap
  have hmax' := h'.max
  have HD0 := Lib.hid db
  clear db
  clear h h' gv e d1 d2 en dp dq
  go_enter Try.func4, Try.ntmps4
  go_wp2_with fail
  refine (awake_calls _).mono ?_
  rintro e w1 ⟨rfl, b1⟩
  have T1 := Lib.hid (((H.out.alloc (.cells #[.slice A n c] 22)).alloc (.cells #[.slice A' n' c'] 23)).below b1)
  have I1 := Lib.hid (((H'.out.alloc (.cells #[.slice A n c] 22)).alloc (.cells #[.slice A' n' c'] 23)).below b1)
  have X1 := Lib.hid (((Box.made w (.slice A n c) 22).alloc (.cells #[.slice A' n' c'] 23)).below b1)
  have y1 := (Box.made (w.alloc (.cells #[.slice A n c] 22)) (.slice A' n' c') 23).below b1
  rw [World.size_alloc] at y1
  have Y1 := Lib.hid y1
  have B1 := Lib.hid (below_then (((Below.refl w.heap.size w).alloc (Nat.le_refl _) (.cells #[.slice A n c] 22)).alloc (by simp) (.cells #[.slice A' n' c'] 23)) b1 (by simp; omega))
  clear b1 y1
  have x1 := X1.out.c
  have y1 := Y1.out.c
  have xl := X1.out.lt
  have yl := Y1.out.lt
  go_wp2_with fail
  refine (GV.out _ T1.out I1.out).mono ?_
  rintro e w2 ⟨rfl, rfl⟩
  have T2 := Lib.hid ((T1.out.alloc (.cells #[.int .i64 (1 + (g : Int))] 3)).alloc (.cells #[.int .i64 p] 3))
  have I2 := Lib.hid ((I1.out.alloc (.cells #[.int .i64 (1 + (g : Int))] 3)).alloc (.cells #[.int .i64 p] 3))
  have X2 := Lib.hid ((X1.out.alloc (.cells #[.int .i64 (1 + (g : Int))] 3)).alloc (.cells #[.int .i64 p] 3))
  have Y2 := Lib.hid ((Y1.out.alloc (.cells #[.int .i64 (1 + (g : Int))] 3)).alloc (.cells #[.int .i64 p] 3))
  have Z2 := Lib.hid ((Box.made w1 (.int .i64 (1 + (g : Int))) 3).alloc (.cells #[.int .i64 p] 3))
  have v2 := (Box.made (w1.alloc (.cells #[.int .i64 (1 + (g : Int))] 3)) (.int .i64 p) 3)
  rw [World.size_alloc] at v2
  have V2 := Lib.hid v2
  have B2 := Lib.hid ((B1.out.alloc B1.out.size (.cells #[.int .i64 (1 + (g : Int))] 3)).alloc (by have := B1.out.size; simp; omega) (.cells #[.int .i64 p] 3))
  clear v2
  go_wp2_with fail
  refine (D1.out _ T2.out I2.out).mono ?_
  rintro e w3 ⟨rfl, b3⟩
  have T3 := Lib.hid (T2.out.below b3)
  have I3 := Lib.hid (I2.out.below b3)
  have X3 := Lib.hid (X2.out.below b3)
  have Y3 := Lib.hid (Y2.out.below b3)
  have Z3 := Lib.hid (Z2.out.below b3)
  have V3 := Lib.hid (V2.out.below b3)
  have B3 := Lib.hid (below_then B2.out b3 B2.out.size)
  clear b3 x1 y1 xl yl
  have x3 := X3.out.c
  have y3 := Y3.out.c
  have z3 := Z3.out.c
  have v3 := V3.out.c
  go_wp2_with fail
  refine (D2.out _ T3.out I3.out).mono ?_
  rintro e w4 ⟨rfl, b4⟩
  have T4 := Lib.hid (T3.out.below b4)
  have I4 := Lib.hid (I3.out.below b4)
  have X4 := Lib.hid (X3.out.below b4)
  have Y4 := Lib.hid (Y3.out.below b4)
  have Z4 := Lib.hid (Z3.out.below b4)
  have V4 := Lib.hid (V3.out.below b4)
  have B4 := Lib.hid (below_then B3.out b4 B3.out.size)
  clear b4 x3 y3 z3 v3
  have en1 := EN.out 0 (by omega) _ _ _ _ _ X4.out Y4.out Z4.out V4.out T4.out I4.out
  rw [HD0.out] at en1
  have EN1 := Lib.hid en1
  clear en1
  go_wp2_with fail
  refine (EN1.out).mono ?_
  rintro e w5 ⟨rfl, b5⟩
  have T5 := Lib.hid (T4.out.below b5)
  have I5 := Lib.hid (I4.out.below b5)
  have X5 := Lib.hid (X4.out.below b5)
  have Y5 := Lib.hid (Y4.out.below b5)
  have Z5 := Lib.hid (Z4.out.below b5)
  have V5 := Lib.hid (V4.out.below b5)
  have B5 := Lib.hid (below_then B4.out b5 B4.out.size)
  clear b5
  go_wp2
  go_ret
  exact ⟨rfl, B5.out⟩


set_option maxHeartbeats 2000000 in
set_option maxRecDepth 100000 in
theorem DueLaw_jok {A A' : Option Addr} {n c n' c' : Nat} {ts : List (List Int)} {l : List Int} (ga pa ma : Int) (w : World) (h : Tab w A n c ts) (h' : Ints w A' n' c' l) (e : givenE ts l = 0) (g : Nat) (p m q : Int) (N : DueNums n' ga pa ma g p m q) (i j : Nat) (hij : (i : Int) = (j : Int) - 1) (hj : (j : Int) ≤ 200) (hj0 : 0 < j) (dp : dueFrom ts l g p 201 0 = ((j : Int), 0)) (db : dueB ts l g p j = true) (db1 : dueB ts l g p i = false) (j2 : Nat) (hjj : (j : Int) ≤ j2) (hj2 : (j2 : Int) ≤ 200) (dq : dueFrom ts l g q 201 0 = ((j2 : Int), 0)) :
    Calls Try.prog 4 #[.slice A n c, .slice A' n' c', .int .u8 ga, .int .u16 pa, .int .u16 ma] w fun e w' => e = .returned (.bool true) ∧ Below w.heap.size w w' := by
  obtain ⟨-, hn1, hn8⟩ := given_len h h' e
  obtain ⟨ga0, ga1, pa0, pa1, ma0, ma1, hg, hgn, hp, hp0, hp1, hm, hm0, hm1, hq, hq0, hq1, hpq⟩ := N
  have gv := fun W (I : Tab W A n c ts) (I' : Ints W A' n' c' l) => Given_ref50 W I I'
  rw [e] at gv
  have en := fun (y : Nat) (hy : (y : Int) ≤ 200) (bt bs bg bp : Nat) (W : World) (ct : Box W bt (.slice A n c)) (cs : Box W bs (.slice A' n' c')) (cg : Box W bg (.int .i64 (1 + (g : Int)))) (cp : Box W bp (.int .i64 p)) (I : Tab W A n c ts) (I' : Ints W A' n' c' l) => enough_calls y g bt bs bg bp p W ct cs cg cp I I' e hgn hp0 hp1 hy
  have d1 := fun W (I : Tab W A n c ts) (I' : Ints W A' n' c' l) => Due_calls (1 + (g : Int)) p W I I'
  have d2 := fun W (I : Tab W A n c ts) (I' : Ints W A' n' c' l) => Due_calls (1 + (g : Int)) q W I I'
  unfold DueV at d1 d2
  rw [if_pos e, if_pos (by rw [h'.len]; omega), show (1 + (g : Int)).toNat - 1 = g by omega] at d1 d2
  rw [dp] at d1
  rw [dq] at d2
  have H := Lib.hid h
  have H' := Lib.hid h'
  have GV := Lib.hid gv
  have EN := Lib.hid en
  have D1 := Lib.hid d1
  have D2 := Lib.hid d2
  have hz : ((n' : Int) == 0) = false := by simp; omega
  have hz1 : 0 < n' := by omega
  have hcap' := h'.cap
  have hmax' := h'.max
  have HD0 := Lib.hid db
  have HD1 := Lib.hid db1
  have hij' : (j : Int) - 1 = (i : Int) := hij.symm
  have hi200 : (i : Int) ≤ 200 := by omega
  have hji : (0 : Int) ≤ (j : Int) - 1 := by omega
  have hjz : ((j : Int) == 0) = false := by simp; omega
  clear db db1 hij
  clear h h' gv e d1 d2 en dp dq
  go_enter Try.func4, Try.ntmps4
  go_wp2_with fail
  refine (awake_calls _).mono ?_
  rintro e w1 ⟨rfl, b1⟩
  have T1 := Lib.hid (((H.out.alloc (.cells #[.slice A n c] 22)).alloc (.cells #[.slice A' n' c'] 23)).below b1)
  have I1 := Lib.hid (((H'.out.alloc (.cells #[.slice A n c] 22)).alloc (.cells #[.slice A' n' c'] 23)).below b1)
  have X1 := Lib.hid (((Box.made w (.slice A n c) 22).alloc (.cells #[.slice A' n' c'] 23)).below b1)
  have y1 := (Box.made (w.alloc (.cells #[.slice A n c] 22)) (.slice A' n' c') 23).below b1
  rw [World.size_alloc] at y1
  have Y1 := Lib.hid y1
  have B1 := Lib.hid (below_then (((Below.refl w.heap.size w).alloc (Nat.le_refl _) (.cells #[.slice A n c] 22)).alloc (by simp) (.cells #[.slice A' n' c'] 23)) b1 (by simp; omega))
  clear b1 y1
  have x1 := X1.out.c
  have y1 := Y1.out.c
  have xl := X1.out.lt
  have yl := Y1.out.lt
  go_wp2_with fail
  refine (GV.out _ T1.out I1.out).mono ?_
  rintro e w2 ⟨rfl, rfl⟩
  have T2 := Lib.hid ((T1.out.alloc (.cells #[.int .i64 (1 + (g : Int))] 3)).alloc (.cells #[.int .i64 p] 3))
  have I2 := Lib.hid ((I1.out.alloc (.cells #[.int .i64 (1 + (g : Int))] 3)).alloc (.cells #[.int .i64 p] 3))
  have X2 := Lib.hid ((X1.out.alloc (.cells #[.int .i64 (1 + (g : Int))] 3)).alloc (.cells #[.int .i64 p] 3))
  have Y2 := Lib.hid ((Y1.out.alloc (.cells #[.int .i64 (1 + (g : Int))] 3)).alloc (.cells #[.int .i64 p] 3))
  have Z2 := Lib.hid ((Box.made w1 (.int .i64 (1 + (g : Int))) 3).alloc (.cells #[.int .i64 p] 3))
  have v2 := (Box.made (w1.alloc (.cells #[.int .i64 (1 + (g : Int))] 3)) (.int .i64 p) 3)
  rw [World.size_alloc] at v2
  have V2 := Lib.hid v2
  have B2 := Lib.hid ((B1.out.alloc B1.out.size (.cells #[.int .i64 (1 + (g : Int))] 3)).alloc (by have := B1.out.size; simp; omega) (.cells #[.int .i64 p] 3))
  clear v2
  go_wp2_with fail
  refine (D1.out _ T2.out I2.out).mono ?_
  rintro e w3 ⟨rfl, b3⟩
  have T3 := Lib.hid (T2.out.below b3)
  have I3 := Lib.hid (I2.out.below b3)
  have X3 := Lib.hid (X2.out.below b3)
  have Y3 := Lib.hid (Y2.out.below b3)
  have Z3 := Lib.hid (Z2.out.below b3)
  have V3 := Lib.hid (V2.out.below b3)
  have B3 := Lib.hid (below_then B2.out b3 B2.out.size)
  clear b3 x1 y1 xl yl
  have x3 := X3.out.c
  have y3 := Y3.out.c
  have z3 := Z3.out.c
  have v3 := V3.out.c
  go_wp2_with fail
  refine (D2.out _ T3.out I3.out).mono ?_
  rintro e w4 ⟨rfl, b4⟩
  have T4 := Lib.hid (T3.out.below b4)
  have I4 := Lib.hid (I3.out.below b4)
  have X4 := Lib.hid (X3.out.below b4)
  have Y4 := Lib.hid (Y3.out.below b4)
  have Z4 := Lib.hid (Z3.out.below b4)
  have V4 := Lib.hid (V3.out.below b4)
  have B4 := Lib.hid (below_then B3.out b4 B3.out.size)
  clear b4 x3 y3 z3 v3
  have en1 := EN.out j (by omega) _ _ _ _ _ X4.out Y4.out Z4.out V4.out T4.out I4.out
  rw [HD0.out] at en1
  have EN1 := Lib.hid en1
  clear en1
  go_wp2_with fail
  refine (EN1.out).mono ?_
  rintro e w5 ⟨rfl, b5⟩
  have T5 := Lib.hid (T4.out.below b5)
  have I5 := Lib.hid (I4.out.below b5)
  have X5 := Lib.hid (X4.out.below b5)
  have Y5 := Lib.hid (Y4.out.below b5)
  have Z5 := Lib.hid (Z4.out.below b5)
  have V5 := Lib.hid (V4.out.below b5)
  have B5 := Lib.hid (below_then B4.out b5 B4.out.size)
  clear b5
  have en2 := EN.out i (by omega) _ _ _ _ _ X5.out Y5.out Z5.out V5.out T5.out I5.out
  rw [HD1.out] at en2
  have EN2 := Lib.hid en2
  clear en2
  go_wp2_with fail
  refine (EN2.out).mono ?_
  rintro e w6 ⟨rfl, b6⟩
  have T6 := Lib.hid (T5.out.below b6)
  have I6 := Lib.hid (I5.out.below b6)
  have X6 := Lib.hid (X5.out.below b6)
  have Y6 := Lib.hid (Y5.out.below b6)
  have Z6 := Lib.hid (Z5.out.below b6)
  have V6 := Lib.hid (V5.out.below b6)
  have B6 := Lib.hid (below_then B5.out b6 B5.out.size)
  clear b6
  go_wp2
  go_ret
  exact ⟨rfl, B6.out⟩


set_option maxHeartbeats 2000000 in
set_option maxRecDepth 100000 in
theorem DueLaw_jno {A A' : Option Addr} {n c n' c' : Nat} {ts : List (List Int)} {l : List Int} (ga pa ma : Int) (w : World) (h : Tab w A n c ts) (h' : Ints w A' n' c' l) (e : givenE ts l = 0) (g : Nat) (p m q : Int) (N : DueNums n' ga pa ma g p m q) (i j : Nat) (hij : (i : Int) = (j : Int) - 1) (hj : (j : Int) ≤ 200) (hj0 : 0 < j) (dp : dueFrom ts l g p 201 0 = ((j : Int), 0)) (db : dueB ts l g p j = true) (db1 : dueB ts l g p i = false) (dq : dueFrom ts l g q 201 0 = (0, 12)) :
    Calls Try.prog 4 #[.slice A n c, .slice A' n' c', .int .u8 ga, .int .u16 pa, .int .u16 ma] w fun e w' => e = .returned (.bool true) ∧ Below w.heap.size w w' := by
  obtain ⟨-, hn1, hn8⟩ := given_len h h' e
  obtain ⟨ga0, ga1, pa0, pa1, ma0, ma1, hg, hgn, hp, hp0, hp1, hm, hm0, hm1, hq, hq0, hq1, hpq⟩ := N
  have gv := fun W (I : Tab W A n c ts) (I' : Ints W A' n' c' l) => Given_ref50 W I I'
  rw [e] at gv
  have en := fun (y : Nat) (hy : (y : Int) ≤ 200) (bt bs bg bp : Nat) (W : World) (ct : Box W bt (.slice A n c)) (cs : Box W bs (.slice A' n' c')) (cg : Box W bg (.int .i64 (1 + (g : Int)))) (cp : Box W bp (.int .i64 p)) (I : Tab W A n c ts) (I' : Ints W A' n' c' l) => enough_calls y g bt bs bg bp p W ct cs cg cp I I' e hgn hp0 hp1 hy
  have d1 := fun W (I : Tab W A n c ts) (I' : Ints W A' n' c' l) => Due_calls (1 + (g : Int)) p W I I'
  have d2 := fun W (I : Tab W A n c ts) (I' : Ints W A' n' c' l) => Due_calls (1 + (g : Int)) q W I I'
  unfold DueV at d1 d2
  rw [if_pos e, if_pos (by rw [h'.len]; omega), show (1 + (g : Int)).toNat - 1 = g by omega] at d1 d2
  rw [dp] at d1
  rw [dq] at d2
  have H := Lib.hid h
  have H' := Lib.hid h'
  have GV := Lib.hid gv
  have EN := Lib.hid en
  have D1 := Lib.hid d1
  have D2 := Lib.hid d2
  have hz : ((n' : Int) == 0) = false := by simp; omega
  have hz1 : 0 < n' := by omega
  have hcap' := h'.cap
  have hmax' := h'.max
  have HD0 := Lib.hid db
  have HD1 := Lib.hid db1
  have hij' : (j : Int) - 1 = (i : Int) := hij.symm
  have hi200 : (i : Int) ≤ 200 := by omega
  have hji : (0 : Int) ≤ (j : Int) - 1 := by omega
  have hjz : ((j : Int) == 0) = false := by simp; omega
  clear db db1 hij
  clear h h' gv e d1 d2 en dp dq
  go_enter Try.func4, Try.ntmps4
  go_wp2_with fail
  refine (awake_calls _).mono ?_
  rintro e w1 ⟨rfl, b1⟩
  have T1 := Lib.hid (((H.out.alloc (.cells #[.slice A n c] 22)).alloc (.cells #[.slice A' n' c'] 23)).below b1)
  have I1 := Lib.hid (((H'.out.alloc (.cells #[.slice A n c] 22)).alloc (.cells #[.slice A' n' c'] 23)).below b1)
  have X1 := Lib.hid (((Box.made w (.slice A n c) 22).alloc (.cells #[.slice A' n' c'] 23)).below b1)
  have y1 := (Box.made (w.alloc (.cells #[.slice A n c] 22)) (.slice A' n' c') 23).below b1
  rw [World.size_alloc] at y1
  have Y1 := Lib.hid y1
  have B1 := Lib.hid (below_then (((Below.refl w.heap.size w).alloc (Nat.le_refl _) (.cells #[.slice A n c] 22)).alloc (by simp) (.cells #[.slice A' n' c'] 23)) b1 (by simp; omega))
  clear b1 y1
  have x1 := X1.out.c
  have y1 := Y1.out.c
  have xl := X1.out.lt
  have yl := Y1.out.lt
  go_wp2_with fail
  refine (GV.out _ T1.out I1.out).mono ?_
  rintro e w2 ⟨rfl, rfl⟩
  have T2 := Lib.hid ((T1.out.alloc (.cells #[.int .i64 (1 + (g : Int))] 3)).alloc (.cells #[.int .i64 p] 3))
  have I2 := Lib.hid ((I1.out.alloc (.cells #[.int .i64 (1 + (g : Int))] 3)).alloc (.cells #[.int .i64 p] 3))
  have X2 := Lib.hid ((X1.out.alloc (.cells #[.int .i64 (1 + (g : Int))] 3)).alloc (.cells #[.int .i64 p] 3))
  have Y2 := Lib.hid ((Y1.out.alloc (.cells #[.int .i64 (1 + (g : Int))] 3)).alloc (.cells #[.int .i64 p] 3))
  have Z2 := Lib.hid ((Box.made w1 (.int .i64 (1 + (g : Int))) 3).alloc (.cells #[.int .i64 p] 3))
  have v2 := (Box.made (w1.alloc (.cells #[.int .i64 (1 + (g : Int))] 3)) (.int .i64 p) 3)
  rw [World.size_alloc] at v2
  have V2 := Lib.hid v2
  have B2 := Lib.hid ((B1.out.alloc B1.out.size (.cells #[.int .i64 (1 + (g : Int))] 3)).alloc (by have := B1.out.size; simp; omega) (.cells #[.int .i64 p] 3))
  clear v2
  go_wp2_with fail
  refine (D1.out _ T2.out I2.out).mono ?_
  rintro e w3 ⟨rfl, b3⟩
  have T3 := Lib.hid (T2.out.below b3)
  have I3 := Lib.hid (I2.out.below b3)
  have X3 := Lib.hid (X2.out.below b3)
  have Y3 := Lib.hid (Y2.out.below b3)
  have Z3 := Lib.hid (Z2.out.below b3)
  have V3 := Lib.hid (V2.out.below b3)
  have B3 := Lib.hid (below_then B2.out b3 B2.out.size)
  clear b3 x1 y1 xl yl
  have x3 := X3.out.c
  have y3 := Y3.out.c
  have z3 := Z3.out.c
  have v3 := V3.out.c
  go_wp2_with fail
  refine (D2.out _ T3.out I3.out).mono ?_
  rintro e w4 ⟨rfl, b4⟩
  have T4 := Lib.hid (T3.out.below b4)
  have I4 := Lib.hid (I3.out.below b4)
  have X4 := Lib.hid (X3.out.below b4)
  have Y4 := Lib.hid (Y3.out.below b4)
  have Z4 := Lib.hid (Z3.out.below b4)
  have V4 := Lib.hid (V3.out.below b4)
  have B4 := Lib.hid (below_then B3.out b4 B3.out.size)
  clear b4 x3 y3 z3 v3
  have en1 := EN.out j (by omega) _ _ _ _ _ X4.out Y4.out Z4.out V4.out T4.out I4.out
  rw [HD0.out] at en1
  have EN1 := Lib.hid en1
  clear en1
  go_wp2_with fail
  refine (EN1.out).mono ?_
  rintro e w5 ⟨rfl, b5⟩
  have T5 := Lib.hid (T4.out.below b5)
  have I5 := Lib.hid (I4.out.below b5)
  have X5 := Lib.hid (X4.out.below b5)
  have Y5 := Lib.hid (Y4.out.below b5)
  have Z5 := Lib.hid (Z4.out.below b5)
  have V5 := Lib.hid (V4.out.below b5)
  have B5 := Lib.hid (below_then B4.out b5 B4.out.size)
  clear b5
  have en2 := EN.out i (by omega) _ _ _ _ _ X5.out Y5.out Z5.out V5.out T5.out I5.out
  rw [HD1.out] at en2
  have EN2 := Lib.hid en2
  clear en2
  go_wp2_with fail
  refine (EN2.out).mono ?_
  rintro e w6 ⟨rfl, b6⟩
  have T6 := Lib.hid (T5.out.below b6)
  have I6 := Lib.hid (I5.out.below b6)
  have X6 := Lib.hid (X5.out.below b6)
  have Y6 := Lib.hid (Y5.out.below b6)
  have Z6 := Lib.hid (Z5.out.below b6)
  have V6 := Lib.hid (V5.out.below b6)
  have B6 := Lib.hid (below_then B5.out b6 B5.out.size)
  clear b6
  go_wp2
  go_ret
  exact ⟨rfl, B6.out⟩


set_option maxHeartbeats 2000000 in
set_option maxRecDepth 100000 in
theorem DueLaw_none {A A' : Option Addr} {n c n' c' : Nat} {ts : List (List Int)} {l : List Int} (ga pa ma : Int) (w : World) (h : Tab w A n c ts) (h' : Ints w A' n' c' l) (e : givenE ts l = 0) (g : Nat) (p m q : Int) (N : DueNums n' ga pa ma g p m q) (dp : dueFrom ts l g p 201 0 = (0, 12)) (db : dueB ts l g p 200 = false) (dq : dueFrom ts l g q 201 0 = (0, 12)) :
    Calls Try.prog 4 #[.slice A n c, .slice A' n' c', .int .u8 ga, .int .u16 pa, .int .u16 ma] w fun e w' => e = .returned (.bool true) ∧ Below w.heap.size w w' := by
  obtain ⟨-, hn1, hn8⟩ := given_len h h' e
  obtain ⟨ga0, ga1, pa0, pa1, ma0, ma1, hg, hgn, hp, hp0, hp1, hm, hm0, hm1, hq, hq0, hq1, hpq⟩ := N
  have gv := fun W (I : Tab W A n c ts) (I' : Ints W A' n' c' l) => Given_ref50 W I I'
  rw [e] at gv
  have en := fun (y : Nat) (hy : (y : Int) ≤ 200) (bt bs bg bp : Nat) (W : World) (ct : Box W bt (.slice A n c)) (cs : Box W bs (.slice A' n' c')) (cg : Box W bg (.int .i64 (1 + (g : Int)))) (cp : Box W bp (.int .i64 p)) (I : Tab W A n c ts) (I' : Ints W A' n' c' l) => enough_calls y g bt bs bg bp p W ct cs cg cp I I' e hgn hp0 hp1 hy
  have d1 := fun W (I : Tab W A n c ts) (I' : Ints W A' n' c' l) => Due_calls (1 + (g : Int)) p W I I'
  have d2 := fun W (I : Tab W A n c ts) (I' : Ints W A' n' c' l) => Due_calls (1 + (g : Int)) q W I I'
  unfold DueV at d1 d2
  rw [if_pos e, if_pos (by rw [h'.len]; omega), show (1 + (g : Int)).toNat - 1 = g by omega] at d1 d2
  rw [dp] at d1
  rw [dq] at d2
  have H := Lib.hid h
  have H' := Lib.hid h'
  have GV := Lib.hid gv
  have EN := Lib.hid en
  have D1 := Lib.hid d1
  have D2 := Lib.hid d2
  have hz : ((n' : Int) == 0) = false := by simp; omega
  have hz1 : 0 < n' := by omega
  have hcap' := h'.cap
  have hmax' := h'.max
  have HD0 := Lib.hid db
  clear db
  clear h h' gv e d1 d2 en dp dq
  go_enter Try.func4, Try.ntmps4
  go_wp2_with fail
  refine (awake_calls _).mono ?_
  rintro e w1 ⟨rfl, b1⟩
  have T1 := Lib.hid (((H.out.alloc (.cells #[.slice A n c] 22)).alloc (.cells #[.slice A' n' c'] 23)).below b1)
  have I1 := Lib.hid (((H'.out.alloc (.cells #[.slice A n c] 22)).alloc (.cells #[.slice A' n' c'] 23)).below b1)
  have X1 := Lib.hid (((Box.made w (.slice A n c) 22).alloc (.cells #[.slice A' n' c'] 23)).below b1)
  have y1 := (Box.made (w.alloc (.cells #[.slice A n c] 22)) (.slice A' n' c') 23).below b1
  rw [World.size_alloc] at y1
  have Y1 := Lib.hid y1
  have B1 := Lib.hid (below_then (((Below.refl w.heap.size w).alloc (Nat.le_refl _) (.cells #[.slice A n c] 22)).alloc (by simp) (.cells #[.slice A' n' c'] 23)) b1 (by simp; omega))
  clear b1 y1
  have x1 := X1.out.c
  have y1 := Y1.out.c
  have xl := X1.out.lt
  have yl := Y1.out.lt
  go_wp2_with fail
  refine (GV.out _ T1.out I1.out).mono ?_
  rintro e w2 ⟨rfl, rfl⟩
  have T2 := Lib.hid ((T1.out.alloc (.cells #[.int .i64 (1 + (g : Int))] 3)).alloc (.cells #[.int .i64 p] 3))
  have I2 := Lib.hid ((I1.out.alloc (.cells #[.int .i64 (1 + (g : Int))] 3)).alloc (.cells #[.int .i64 p] 3))
  have X2 := Lib.hid ((X1.out.alloc (.cells #[.int .i64 (1 + (g : Int))] 3)).alloc (.cells #[.int .i64 p] 3))
  have Y2 := Lib.hid ((Y1.out.alloc (.cells #[.int .i64 (1 + (g : Int))] 3)).alloc (.cells #[.int .i64 p] 3))
  have Z2 := Lib.hid ((Box.made w1 (.int .i64 (1 + (g : Int))) 3).alloc (.cells #[.int .i64 p] 3))
  have v2 := (Box.made (w1.alloc (.cells #[.int .i64 (1 + (g : Int))] 3)) (.int .i64 p) 3)
  rw [World.size_alloc] at v2
  have V2 := Lib.hid v2
  have B2 := Lib.hid ((B1.out.alloc B1.out.size (.cells #[.int .i64 (1 + (g : Int))] 3)).alloc (by have := B1.out.size; simp; omega) (.cells #[.int .i64 p] 3))
  clear v2
  go_wp2_with fail
  refine (D1.out _ T2.out I2.out).mono ?_
  rintro e w3 ⟨rfl, b3⟩
  have T3 := Lib.hid (T2.out.below b3)
  have I3 := Lib.hid (I2.out.below b3)
  have X3 := Lib.hid (X2.out.below b3)
  have Y3 := Lib.hid (Y2.out.below b3)
  have Z3 := Lib.hid (Z2.out.below b3)
  have V3 := Lib.hid (V2.out.below b3)
  have B3 := Lib.hid (below_then B2.out b3 B2.out.size)
  clear b3 x1 y1 xl yl
  have x3 := X3.out.c
  have y3 := Y3.out.c
  have z3 := Z3.out.c
  have v3 := V3.out.c
  go_wp2_with fail
  refine (D2.out _ T3.out I3.out).mono ?_
  rintro e w4 ⟨rfl, b4⟩
  have T4 := Lib.hid (T3.out.below b4)
  have I4 := Lib.hid (I3.out.below b4)
  have X4 := Lib.hid (X3.out.below b4)
  have Y4 := Lib.hid (Y3.out.below b4)
  have Z4 := Lib.hid (Z3.out.below b4)
  have V4 := Lib.hid (V3.out.below b4)
  have B4 := Lib.hid (below_then B3.out b4 B3.out.size)
  clear b4 x3 y3 z3 v3
  have en1 := EN.out 200 (by omega) _ _ _ _ _ X4.out Y4.out Z4.out V4.out T4.out I4.out
  rw [HD0.out] at en1
  have EN1 := Lib.hid en1
  clear en1
  go_wp2_with fail
  refine (EN1.out).mono ?_
  rintro e w5 ⟨rfl, b5⟩
  have T5 := Lib.hid (T4.out.below b5)
  have I5 := Lib.hid (I4.out.below b5)
  have X5 := Lib.hid (X4.out.below b5)
  have Y5 := Lib.hid (Y4.out.below b5)
  have Z5 := Lib.hid (Z4.out.below b5)
  have V5 := Lib.hid (V4.out.below b5)
  have B5 := Lib.hid (below_then B4.out b5 B4.out.size)
  clear b5
  go_wp2
  go_ret
  exact ⟨rfl, B5.out⟩


theorem DueLaw_calls {A A' : Option Addr} {n c n' c' : Nat} {ts : List (List Int)} {l : List Int} (ga pa ma : Int) (w : World) (h : Tab w A n c ts) (h' : Ints w A' n' c' l) (h1 : 0 ≤ ga ∧ ga ≤ 255) (h2 : 0 ≤ pa ∧ pa ≤ 65535) (h3 : 0 ≤ ma ∧ ma ≤ 65535) :
    Calls Try.prog 4 #[.slice A n c, .slice A' n' c', .int .u8 ga, .int .u16 pa, .int .u16 ma] w fun e w' => e = .returned (.bool true) ∧ Below w.heap.size w w' := by
  by_cases e : givenE ts l = 0
  · obtain ⟨g, p, m, q, N⟩ := dueNums (given_len h h' e).2.1 h1 h2 h3
    rcases due_two (yearOk_of e) g N.hpq with ⟨j, j1, j2, j3, j4, ⟨k, k1, k2, k3⟩ | k3⟩ | ⟨j1, j2, j3⟩
    · by_cases h0 : j = 0
      · subst h0
        exact DueLaw_zok ga pa ma w h h' e g p m q N j2 j3 k (by omega) k3
      · exact DueLaw_jok ga pa ma w h h' e g p m q N (j - 1) j (by omega) (by omega) (by omega) j2 j3 (j4 (by omega)) k (by omega) (by omega) k3
    · by_cases h0 : j = 0
      · subst h0
        exact DueLaw_zno ga pa ma w h h' e g p m q N j2 j3 k3
      · exact DueLaw_jno ga pa ma w h h' e g p m q N (j - 1) j (by omega) (by omega) (by omega) j2 j3 (j4 (by omega)) k3
    · exact DueLaw_none ga pa ma w h h' e g p m q N j1 j2 j3
  · exact DueLaw_out ga pa ma w h h' e
end Go.Proofs.Ytihaabdgligbbaa
