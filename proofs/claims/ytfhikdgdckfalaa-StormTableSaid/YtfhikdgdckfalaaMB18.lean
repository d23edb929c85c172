/- Triangular storms: the program's, the reference's. -/
import Derived.Test.YtfhikdgdckfalaaMB17
import Derived.Test.YtfhikdgdckfalaaMB15
import Derived.Test.YtfhikdgdckfalaaMB00
import Derived.Test.YtfhikdgdckfalaaMB03

namespace Go.Proofs.Ytfhikdgdckfalaa
open Go.RowKit
set_option linter.unusedVariables false

set_option maxRecDepth 100000 in
set_option maxHeartbeats 4000000 in
theorem Triangle_calls (d f st n p : Int) (w : World) :
    Calls Try.prog 13 #[.int .i64 d, .int .i64 f, .int .i64 st, .int .i64 n, .int .i64 p] w (RetSer (triV d f st n p) w) := by
  obtain ⟨W0, hW0⟩ : ∃ W0, w.alloc (serO 0 0 none 0 0) = W0 := ⟨_, rfl⟩
  have hb0 : Below w.heap.size w W0 := by rw [← hW0]; exact (Below.refl _ _).alloc (Nat.le_refl _) _
  have z : ZBox W0 w.heap.size := by rw [← hW0]; exact ZBox.made w
  have Z0 := Lib.hid z
  have B0 := Lib.hid hb0
  have HW := Lib.hid hW0
  have fc := frame_calls f st n W0
  have ic := index_calls p n W0
  obtain ⟨V, hV⟩ : ∃ V, triV d f st n p = V := ⟨_, rfl⟩
  rw [hV]
  unfold triV at hV
  have F2 := fin0 z B0.out 2
  obtain ⟨z0, z1, z2, f0, f1, f2, zl⟩ := z.cells
  clear hb0 z
  by_cases h1 : d < 0
  · rw [if_pos (.inl h1)] at hV
    subst hV
    clear fc
    go_enter Try.func13, Try.ntmps13
    go_wp2
    have q := F2.out
    generalize ((W0.setCell ⟨w.heap.size, 0, none⟩ (.int .i64 0)).setCell ⟨w.heap.size, 1, none⟩ (.int .i64 0)).setCell ⟨w.heap.size, 2, none⟩ (.slice none 0 0) = W3 at *
    obtain ⟨⟨⟨q0, q1, q2, -⟩, -, -, -, -⟩, q3⟩ := q
    exact bodyPost_ret (v := .tuple #[serA 0 0 none 0 0, .int .i64 2]) (by simp [results, Try.results13, go_sem, q0, q1, q2]) rfl q3
  · by_cases h2 : 4194304 < d
    · rw [if_pos (.inr (.inl h2))] at hV
      subst hV
      clear fc
      go_enter Try.func13, Try.ntmps13
      go_wp2
      have q := F2.out
      generalize ((W0.setCell ⟨w.heap.size, 0, none⟩ (.int .i64 0)).setCell ⟨w.heap.size, 1, none⟩ (.int .i64 0)).setCell ⟨w.heap.size, 2, none⟩ (.slice none 0 0) = W3 at *
      obtain ⟨⟨⟨q0, q1, q2, -⟩, -, -, -, -⟩, q3⟩ := q
      exact bodyPost_ret (v := .tuple #[serA 0 0 none 0 0, .int .i64 2]) (by simp [results, Try.results13, go_sem, q0, q1, q2]) rfl q3
    · cases hq : stB f st n
      · rw [if_pos (.inr (.inr (.inl hq)))] at hV
        subst hV
        rw [hq] at fc
        have FC := Lib.hid fc
        clear fc hq
        go_enter Try.func13, Try.ntmps13
        go_wp2_with fail
        refine (FC.out).mono ?_
        rintro e w1 ⟨rfl, rfl⟩
        go_wp2
        have q := F2.out
        generalize ((W0.setCell ⟨w.heap.size, 0, none⟩ (.int .i64 0)).setCell ⟨w.heap.size, 1, none⟩ (.int .i64 0)).setCell ⟨w.heap.size, 2, none⟩ (.slice none 0 0) = W3 at *
        obtain ⟨⟨⟨q0, q1, q2, -⟩, -, -, -, -⟩, q3⟩ := q
        exact bodyPost_ret (v := .tuple #[serA 0 0 none 0 0, .int .i64 2]) (by simp [results, Try.results13, go_sem, q0, q1, q2]) rfl q3
      · rw [hq] at fc
        have FC := Lib.hid fc
        cases hix : ixB p n
        · rw [if_pos (.inr (.inr (.inr hix)))] at hV
          subst hV
          rw [hix] at ic
          have IC := Lib.hid ic
          clear fc hq ic hix
          go_enter Try.func13, Try.ntmps13
          go_wp2_with fail
          refine (FC.out).mono ?_
          rintro e w1 ⟨rfl, rfl⟩
          go_wp2_with fail
          refine (IC.out).mono ?_
          rintro e w1 ⟨rfl, rfl⟩
          go_wp2
          have q := F2.out
          generalize ((W0.setCell ⟨w.heap.size, 0, none⟩ (.int .i64 0)).setCell ⟨w.heap.size, 1, none⟩ (.int .i64 0)).setCell ⟨w.heap.size, 2, none⟩ (.slice none 0 0) = W3 at *
          obtain ⟨⟨⟨q0, q1, q2, -⟩, -, -, -, -⟩, q3⟩ := q
          exact bodyPost_ret (v := .tuple #[serA 0 0 none 0 0, .int .i64 2]) (by simp [results, Try.results13, go_sem, q0, q1, q2]) rfl q3
        · have ok := stB_iff.1 hq
          rw [if_neg (by intro h; rcases h with h | h | h | h; omega; omega; rw [hq] at h; cases h; rw [hix] at h; cases h)] at hV
          rw [hix] at ic
          have IC := Lib.hid ic
          obtain ⟨N, hN⟩ := Int.eq_ofNat_of_zero_le (show 0 ≤ n by have := ok.n0; omega)
          subst hN
          have hpp : 0 ≤ p ∧ p < (N : Int) := by
            unfold ixB at hix
            rw [Bool.and_eq_true, decide_eq_true_eq, decide_eq_true_eq] at hix
            exact hix
          obtain ⟨P, hP⟩ := Int.eq_ofNat_of_zero_le hpp.1
          subst hP
          have n0 := ok.n0
          have n1 := ok.n1
          rw [Int.toNat_natCast, Int.toNat_natCast] at hV
          subst hV
          have hPN : P < N := by omega
          have g3 : ¬ (P : Int) < 0 := by omega
          have g4 : (P : Int) < (N : Int) := by omega
          have hd1 : decide (N ≤ P) = false := by simp; omega
          have hd2 : decide ((P : Int) < 0) = false := by simp
          have hso := tri_ok (d := d) (n := N) (p := P) (by omega) (by omega) hPN (by omega)
          have TB := Lib.hid (fun i (hi : i < N) => triF_bd (n := N) (p := P) (by omega) hPN hi)
          have SH := Lib.hid (fun W A c (I : Ints W A N c (triL N P)) => (by
            have h1 := shared_calls d f st W I
            rw [shd_ok hso] at h1
            exact h1 : Calls Try.prog 44 #[.int .i64 d, .int .i64 f, .int .i64 st, .slice A N c] W (RetSer (⟨f, st, shL d (triL N P)⟩, 0) W)))
          have HTL : Hid (triL N P = fl N (triF N P)) := Lib.hid rfl
          clear fc hq ok F2 hix hso hpp ic z0 z1 z2 f0 f1 f2
          generalize shL d (triL N P) = L at *
          go_enter Try.func13, Try.ntmps13
          go_wp2_with fail
          refine (FC.out).mono ?_
          rintro e w1 ⟨rfl, rfl⟩
          go_wp2_with fail
          refine (IC.out).mono ?_
          rintro e w1 ⟨rfl, rfl⟩
          go_wp2
          go_loopw [12, 35] (fun v i wr => ∃ k : Nat, k ≤ N ∧ i = .int .i64 k ∧ Own wr W0.heap.size v (fl k (triF N P)) ∧ Below W0.heap.size W0 wr) (fun _ i _ => N - (intOf i).toNat)
          case atStart => exact ⟨0, Nat.zero_le _, rfl, Own.nil _ _, Below.refl _ _⟩
          case round =>
            obtain ⟨k, hk, rfl, ho, hb⟩ := hrel
            generalize wr = wo at *
            have HO := Lib.hid ho
            have HB := Lib.hid hb
            have hsz := hb.size
            clear ho hb
            by_cases hlt : k < N
            · obtain ⟨A1, m1, c1, e1, -, -⟩ := HO.out.ints
              subst e1
              have HE : Hid (fl k (triF N P) ++ [triF N P k] = fl (k + 1) (triF N P)) := Lib.hid (fl_succ _ _).symm
              have hll : Hid ((fl k (triF N P)).length = k) := Lib.hid (fl_length _ _)
              have hbd := TB.out k hlt
              by_cases hkp : (k : Int) ≤ (P : Int)
              · have hZ : triF N P k = ((k : Int) + 1) * ((N : Int) - P) := by unfold triF; rw [if_pos (by omega)]
                obtain ⟨K1, hK1⟩ : ∃ K1 : Int, (k : Int) + 1 = K1 := ⟨_, rfl⟩
                obtain ⟨Q, hQ⟩ : ∃ Q : Int, (N : Int) - (P : Int) = Q := ⟨_, rfl⟩
                rw [hK1, hQ] at hZ
                have hK2 : 1 ≤ K1 ∧ K1 ≤ 10000 := by omega
                have hQ2 : 1 ≤ Q ∧ Q ≤ 10000 := by omega
                obtain ⟨k3, k4⟩ := hK2
                obtain ⟨k5, k6⟩ := hQ2
                rw [hZ] at hbd HE
                obtain ⟨Z, hZZ⟩ : ∃ Z, K1 * Q = Z := ⟨_, rfl⟩
                rw [hZZ] at hbd HE
                obtain ⟨b0, b1⟩ := hbd
                clear hZ
                go_wp2_with (at_builtin; refine wpList_append_int wo W0.heap.size _ (fl k (triF N P)) Z rfl _ _ rfl rfl rfl HO.out hsz (by rw [hll.out]; omega) (by omega) ?_)
                intro v3 w3 ho3 hb3
                rw [HE.out] at ho3
                have HO3 := Lib.hid ho3
                have HB3 := Lib.hid (HB.out.trans hb3)
                have hKn : ((k + 1 : Nat) : Int) = K1 := by omega
                clear ho3 hb3
                go_wp2
                go_roundw
                case rel => exact ⟨k + 1, by omega, by rw [hKn], HO3.out, HB3.out⟩
                case measure => simp [intOf]; try omega
              · have hZ : triF N P k = ((N : Int) - k) * ((P : Int) + 1) := by unfold triF; rw [if_neg (by omega)]
                obtain ⟨K1, hK1⟩ : ∃ K1 : Int, (N : Int) - (k : Int) = K1 := ⟨_, rfl⟩
                obtain ⟨Q, hQ⟩ : ∃ Q : Int, (P : Int) + 1 = Q := ⟨_, rfl⟩
                rw [hK1, hQ] at hZ
                have hK2 : 1 ≤ K1 ∧ K1 ≤ 10000 := by omega
                have hQ2 : 1 ≤ Q ∧ Q ≤ 10000 := by omega
                obtain ⟨k3, k4⟩ := hK2
                obtain ⟨k5, k6⟩ := hQ2
                rw [hZ] at hbd HE
                obtain ⟨Z, hZZ⟩ : ∃ Z, K1 * Q = Z := ⟨_, rfl⟩
                rw [hZZ] at hbd HE
                obtain ⟨b0, b1⟩ := hbd
                clear hZ
                go_wp2_with (at_builtin; refine wpList_append_int wo W0.heap.size _ (fl k (triF N P)) Z rfl _ _ rfl rfl rfl HO.out hsz (by rw [hll.out]; omega) (by omega) ?_)
                intro v3 w3 ho3 hb3
                rw [HE.out] at ho3
                have HO3 := Lib.hid ho3
                have HB3 := Lib.hid (HB.out.trans hb3)
                clear ho3 hb3
                go_wp2
                go_roundw
                case rel => exact ⟨k + 1, by omega, by go_num, HO3.out, HB3.out⟩
                case measure => simp [intOf]; try omega
            · obtain rfl : k = N := by omega
              obtain ⟨A2, n2, c2, e1, i2, g2⟩ := HO.out.ints
              subst e1
              rw [← HTL.out] at i2
              obtain rfl : n2 = k := by rw [← i2.len]; exact fl_length _ _
              have I2 := Lib.hid i2
              clear i2 g2 hlt
              go_wp2_with fail
              refine (SH.out _ _ _ I2.out).mono ?_
              rintro e w3 ⟨A3, n3, c3, rfl, i3, b3, g3⟩
              have hb3 := below_then HB.out b3 hsz
              have hz := Z0.out.below hb3 Z0.out.b.lt
              have F := finS hz (below_then B0.out hb3 B0.out.size) ⟨f, st, L⟩ 0 i3 (fun ad e => by have h1 := g3 ad e; have h3 := Z0.out.b.lt; omega)
              obtain ⟨z0, z1, z2, f0, f1, f2, zl⟩ := hz.cells
              clear hz i3 b3 g3 hb3
              dsimp only at F
              go_wp2
              have q := F.out
              generalize ((w3.setCell ⟨w.heap.size, 0, none⟩ (.int .i64 f)).setCell ⟨w.heap.size, 1, none⟩ (.int .i64 st)).setCell ⟨w.heap.size, 2, none⟩ (.slice A3 n3 c3) = W3 at *
              obtain ⟨⟨⟨q0, q1, q2, -⟩, -, -, -, -⟩, q3⟩ := q
              exact bodyPost_ret (v := .tuple #[serA f st A3 n3 c3, .int .i64 0]) (by simp [results, Try.results13, go_sem, q0, q1, q2]) rfl q3

set_option maxRecDepth 100000 in
set_option maxHeartbeats 4000000 in
theorem Triangle_ref (d f st n p : Int) (w : World) :
    Calls Try.prog 14 #[.int .i64 d, .int .i64 f, .int .i64 st, .int .i64 n, .int .i64 p] w (RetSer (triV d f st n p) w) := by
  obtain ⟨W0, hW0⟩ : ∃ W0, w.alloc (serO 0 0 none 0 0) = W0 := ⟨_, rfl⟩
  have hb0 : Below w.heap.size w W0 := by rw [← hW0]; exact (Below.refl _ _).alloc (Nat.le_refl _) _
  have z : ZBox W0 w.heap.size := by rw [← hW0]; exact ZBox.made w
  have Z0 := Lib.hid z
  have B0 := Lib.hid hb0
  have HW := Lib.hid hW0
  have fc := Frame_ref f st n W0
  obtain ⟨V, hV⟩ : ∃ V, triV d f st n p = V := ⟨_, rfl⟩
  rw [hV]
  unfold triV at hV
  have F2 := fin0 z B0.out 2
  obtain ⟨z0, z1, z2, f0, f1, f2, zl⟩ := z.cells
  clear hb0 z
  by_cases h1 : d < 0
  · rw [if_pos (.inl h1)] at hV
    subst hV
    clear fc
    go_enter Try.func14, Try.ntmps14
    go_wp2
    have q := F2.out
    generalize ((W0.setCell ⟨w.heap.size, 0, none⟩ (.int .i64 0)).setCell ⟨w.heap.size, 1, none⟩ (.int .i64 0)).setCell ⟨w.heap.size, 2, none⟩ (.slice none 0 0) = W3 at *
    obtain ⟨⟨⟨q0, q1, q2, -⟩, -, -, -, -⟩, q3⟩ := q
    exact bodyPost_ret (v := .tuple #[serA 0 0 none 0 0, .int .i64 2]) (by simp [results, Try.results14, go_sem, q0, q1, q2]) rfl q3
  · by_cases h2 : 4194304 < d
    · rw [if_pos (.inr (.inl h2))] at hV
      subst hV
      clear fc
      go_enter Try.func14, Try.ntmps14
      go_wp2
      have q := F2.out
      generalize ((W0.setCell ⟨w.heap.size, 0, none⟩ (.int .i64 0)).setCell ⟨w.heap.size, 1, none⟩ (.int .i64 0)).setCell ⟨w.heap.size, 2, none⟩ (.slice none 0 0) = W3 at *
      obtain ⟨⟨⟨q0, q1, q2, -⟩, -, -, -, -⟩, q3⟩ := q
      exact bodyPost_ret (v := .tuple #[serA 0 0 none 0 0, .int .i64 2]) (by simp [results, Try.results14, go_sem, q0, q1, q2]) rfl q3
    · cases hq : stB f st n
      · rw [if_pos (.inr (.inr (.inl hq)))] at hV
        subst hV
        rw [hq] at fc
        have FC := Lib.hid fc
        clear fc hq
        go_enter Try.func14, Try.ntmps14
        go_wp2_with fail
        refine (FC.out).mono ?_
        rintro e w1 ⟨rfl, rfl⟩
        go_wp2
        have q := F2.out
        generalize ((W0.setCell ⟨w.heap.size, 0, none⟩ (.int .i64 0)).setCell ⟨w.heap.size, 1, none⟩ (.int .i64 0)).setCell ⟨w.heap.size, 2, none⟩ (.slice none 0 0) = W3 at *
        obtain ⟨⟨⟨q0, q1, q2, -⟩, -, -, -, -⟩, q3⟩ := q
        exact bodyPost_ret (v := .tuple #[serA 0 0 none 0 0, .int .i64 2]) (by simp [results, Try.results14, go_sem, q0, q1, q2]) rfl q3
      · rw [hq] at fc
        have FC := Lib.hid fc
        cases hix : ixB p n
        · rw [if_pos (.inr (.inr (.inr hix)))] at hV
          subst hV
          have hp2 : p < 0 ∨ (¬ p < 0 ∧ n ≤ p) := by
            unfold ixB at hix
            by_cases h : p < 0
            · exact .inl h
            · right
              rw [decide_eq_true (show 0 ≤ p by omega), Bool.true_and, decide_eq_false_iff_not] at hix
              omega
          clear fc hq hix
          rcases hp2 with h3 | ⟨h3, h4⟩ <;> (
            go_enter Try.func14, Try.ntmps14
            go_wp2_with fail
            refine (FC.out).mono ?_
            rintro e w1 ⟨rfl, rfl⟩
            go_wp2
            have q := F2.out
            generalize ((W0.setCell ⟨w.heap.size, 0, none⟩ (.int .i64 0)).setCell ⟨w.heap.size, 1, none⟩ (.int .i64 0)).setCell ⟨w.heap.size, 2, none⟩ (.slice none 0 0) = W3 at *
            obtain ⟨⟨⟨q0, q1, q2, -⟩, -, -, -, -⟩, q3⟩ := q
            exact bodyPost_ret (v := .tuple #[serA 0 0 none 0 0, .int .i64 2]) (by simp [results, Try.results14, go_sem, q0, q1, q2]) rfl q3)
        · have ok := stB_iff.1 hq
          rw [if_neg (by intro h; rcases h with h | h | h | h; omega; omega; rw [hq] at h; cases h; rw [hix] at h; cases h)] at hV
          obtain ⟨N, hN⟩ := Int.eq_ofNat_of_zero_le (show 0 ≤ n by have := ok.n0; omega)
          subst hN
          have hpp : 0 ≤ p ∧ p < (N : Int) := by
            unfold ixB at hix
            rw [Bool.and_eq_true, decide_eq_true_eq, decide_eq_true_eq] at hix
            exact hix
          obtain ⟨P, hP⟩ := Int.eq_ofNat_of_zero_le hpp.1
          subst hP
          have n0 := ok.n0
          have n1 := ok.n1
          rw [Int.toNat_natCast, Int.toNat_natCast] at hV
          subst hV
          have hPN : P < N := by omega
          have g3 : ¬ (P : Int) < 0 := by omega
          have g4 : (P : Int) < (N : Int) := by omega
          have hd1 : decide (N ≤ P) = false := by simp; omega
          have hd2 : decide ((P : Int) < 0) = false := by simp
          have hso := tri_ok (d := d) (n := N) (p := P) (by omega) (by omega) hPN (by omega)
          have TB := Lib.hid (fun i (hi : i < N) => triF_bd (n := N) (p := P) (by omega) hPN hi)
          have SH := Lib.hid (fun W A c (I : Ints W A N c (triL N P)) => (by
            have h1 := Share_ref d W I
            rw [shareV_ok hso] at h1
            exact h1 : Calls Try.prog 46 #[.int .i64 d, .slice A N c] W (RetL (shL d (triL N P)) 0 W)))
          have HTL : Hid (triL N P = fl N (triF N P)) := Lib.hid rfl
          clear fc hq ok F2 hix hso hpp z0 z1 z2 f0 f1 f2
          generalize shL d (triL N P) = L at *
          go_enter Try.func14, Try.ntmps14
          go_wp2_with fail
          refine (FC.out).mono ?_
          rintro e w1 ⟨rfl, rfl⟩
          go_wp2
          go_loopw [12, 13] (fun v i wr => ∃ k : Nat, k ≤ N ∧ i = .int .i64 k ∧ Own wr W0.heap.size v (fl k (triF N P)) ∧ Below W0.heap.size W0 wr) (fun _ i _ => N - (intOf i).toNat)
          case atStart => exact ⟨0, Nat.zero_le _, rfl, Own.nil _ _, Below.refl _ _⟩
          case round =>
            obtain ⟨k, hk, rfl, ho, hb⟩ := hrel
            generalize wr = wo at *
            have HO := Lib.hid ho
            have HB := Lib.hid hb
            have hsz := hb.size
            clear ho hb
            by_cases hlt : k < N
            · obtain ⟨A1, m1, c1, e1, -, -⟩ := HO.out.ints
              subst e1
              have HE : Hid (fl k (triF N P) ++ [triF N P k] = fl (k + 1) (triF N P)) := Lib.hid (fl_succ _ _).symm
              have hll : Hid ((fl k (triF N P)).length = k) := Lib.hid (fl_length _ _)
              have hbd := TB.out k hlt
              by_cases hkp : (k : Int) ≤ (P : Int)
              · have hZ : triF N P k = ((k : Int) + 1) * ((N : Int) - P) := by unfold triF; rw [if_pos (by omega)]
                obtain ⟨K1, hK1⟩ : ∃ K1 : Int, (k : Int) + 1 = K1 := ⟨_, rfl⟩
                obtain ⟨Q, hQ⟩ : ∃ Q : Int, (N : Int) - (P : Int) = Q := ⟨_, rfl⟩
                rw [hK1, hQ] at hZ
                have hK2 : 1 ≤ K1 ∧ K1 ≤ 10000 := by omega
                have hQ2 : 1 ≤ Q ∧ Q ≤ 10000 := by omega
                obtain ⟨k3, k4⟩ := hK2
                obtain ⟨k5, k6⟩ := hQ2
                rw [hZ] at hbd HE
                obtain ⟨Z, hZZ⟩ : ∃ Z, K1 * Q = Z := ⟨_, rfl⟩
                rw [hZZ] at hbd HE
                obtain ⟨b0, b1⟩ := hbd
                clear hZ
                go_wp2_with (at_builtin; refine wpList_append_int wo W0.heap.size _ (fl k (triF N P)) Z rfl _ _ rfl rfl rfl HO.out hsz (by rw [hll.out]; omega) (by omega) ?_)
                intro v3 w3 ho3 hb3
                rw [HE.out] at ho3
                have HO3 := Lib.hid ho3
                have HB3 := Lib.hid (HB.out.trans hb3)
                have hKn : ((k + 1 : Nat) : Int) = K1 := by omega
                clear ho3 hb3
                go_wp2
                go_roundw
                case rel => exact ⟨k + 1, by omega, by rw [hKn], HO3.out, HB3.out⟩
                case measure => simp [intOf]; try omega
              · have hZ : triF N P k = ((N : Int) - k) * ((P : Int) + 1) := by unfold triF; rw [if_neg (by omega)]
                obtain ⟨K1, hK1⟩ : ∃ K1 : Int, (N : Int) - (k : Int) = K1 := ⟨_, rfl⟩
                obtain ⟨Q, hQ⟩ : ∃ Q : Int, (P : Int) + 1 = Q := ⟨_, rfl⟩
                rw [hK1, hQ] at hZ
                have hK2 : 1 ≤ K1 ∧ K1 ≤ 10000 := by omega
                have hQ2 : 1 ≤ Q ∧ Q ≤ 10000 := by omega
                obtain ⟨k3, k4⟩ := hK2
                obtain ⟨k5, k6⟩ := hQ2
                rw [hZ] at hbd HE
                obtain ⟨Z, hZZ⟩ : ∃ Z, K1 * Q = Z := ⟨_, rfl⟩
                rw [hZZ] at hbd HE
                obtain ⟨b0, b1⟩ := hbd
                clear hZ
                go_wp2_with (at_builtin; refine wpList_append_int wo W0.heap.size _ (fl k (triF N P)) Z rfl _ _ rfl rfl rfl HO.out hsz (by rw [hll.out]; omega) (by omega) ?_)
                intro v3 w3 ho3 hb3
                rw [HE.out] at ho3
                have HO3 := Lib.hid ho3
                have HB3 := Lib.hid (HB.out.trans hb3)
                clear ho3 hb3
                go_wp2
                go_roundw
                case rel => exact ⟨k + 1, by omega, by go_num, HO3.out, HB3.out⟩
                case measure => simp [intOf]; try omega
            · obtain rfl : k = N := by omega
              obtain ⟨A2, n2, c2, e1, i2, g2⟩ := HO.out.ints
              subst e1
              rw [← HTL.out] at i2
              obtain rfl : n2 = k := by rw [← i2.len]; exact fl_length _ _
              have I2 := Lib.hid i2
              clear i2 g2 hlt
              go_wp2_with fail
              refine (SH.out _ _ _ I2.out).mono ?_
              rintro e w3 ⟨A3, n3, c3, rfl, i3, b3, g3⟩
              have hb3 := below_then HB.out b3 hsz
              have hz := Z0.out.below hb3 Z0.out.b.lt
              have F := finS hz (below_then B0.out hb3 B0.out.size) ⟨f, st, L⟩ 0 i3 (fun ad e => by have h1 := g3 ad e; have h3 := Z0.out.b.lt; omega)
              obtain ⟨z0, z1, z2, f0, f1, f2, zl⟩ := hz.cells
              clear hz i3 b3 g3 hb3
              dsimp only at F
              go_wp2
              have q := F.out
              generalize ((w3.setCell ⟨w.heap.size, 0, none⟩ (.int .i64 f)).setCell ⟨w.heap.size, 1, none⟩ (.int .i64 st)).setCell ⟨w.heap.size, 2, none⟩ (.slice A3 n3 c3) = W3 at *
              obtain ⟨⟨⟨q0, q1, q2, -⟩, -, -, -, -⟩, q3⟩ := q
              exact bodyPost_ret (v := .tuple #[serA f st A3 n3 c3, .int .i64 0]) (by simp [results, Try.results14, go_sem, q0, q1, q2]) rfl q3
end Go.Proofs.Ytfhikdgdckfalaa

/- The chapter's examples hold. -/
namespace Go.Proofs.Ytfhikdgdckfalaa
open Go.RowKit
set_option linter.unusedVariables false

theorem equal_same {A A' : Option Addr} {n c n' c' : Nat} {zs : List Int} (w : World) (h : Ints w A n c zs) (h' : Ints w A' n' c' zs) :
    Calls Try.prog 41 #[.slice A n c, .slice A' n' c'] w fun e w' => e = .returned (.bool true) ∧ Below w.heap.size w w' :=
  (equal_calls w h h').mono fun e w' h => ⟨by rw [h.1, decide_eq_true rfl], h.2⟩
theorem Tab.lit (w : World) {A : Option Addr} {n c : Nat} {r : List Int} (h : Ints w A n c r) : Tab (w.alloc (.cells #[.slice A n c] 23)) (some ⟨w.heap.size, 0, none⟩) 1 1 [r] :=
  ⟨rfl, Nat.le_refl _, by omega, by omega, fun _ => ⟨_, rfl, by simp, fun j hj => by
    obtain rfl : j = 0 := by omega
    exact ⟨A, n, c, by rw [show (⟨w.heap.size, 0, none⟩ : Addr).add 0 = ⟨w.heap.size, 0, none⟩ from by simp [Addr.add], World.cell?_alloc_new]; rfl, h.alloc _⟩⟩, fun e => by cases e⟩

set_option maxHeartbeats 4000000 in
set_option maxRecDepth 100000 in
theorem awake_calls (w : World) : Calls Try.prog 10 #[] w fun e w' => e = .returned (.bool true) ∧ Below w.heap.size w w' := by
  obtain ⟨W1, hW1⟩ : ∃ W, w.alloc (.cells #[.int .i64 300, .int .i64 600, .int .i64 900] 3) = W := ⟨_, rfl⟩
  have b1 : Below w.heap.size w W1 := by rw [← hW1]; exact (Below.refl _ _).alloc (Nat.le_refl _) _
  have i1 : Ints W1 (some ⟨w.heap.size, 0, none⟩) 3 3 [300, 600, 900] := by rw [← hW1]; exact Ints.lit w [300, 600, 900] (by decide) (by decide)
  obtain ⟨W2, hW2⟩ : ∃ W, W1.alloc (.cells #[.int .i64 2] 3) = W := ⟨_, rfl⟩
  have b2 : Below W1.heap.size W1 W2 := by rw [← hW2]; exact (Below.refl _ _).alloc (Nat.le_refl _) _
  have i2 : Ints W2 (some ⟨W1.heap.size, 0, none⟩) 1 1 [2] := by rw [← hW2]; exact Ints.lit W1 [2] (by decide) (by decide)
  obtain ⟨W3, hW3⟩ : ∃ W, W2.alloc (.cells #[.int .i64 50, .int .i64 80, .int .i64 90] 3) = W := ⟨_, rfl⟩
  have b3 : Below W2.heap.size W2 W3 := by rw [← hW3]; exact (Below.refl _ _).alloc (Nat.le_refl _) _
  have i3 : Ints W3 (some ⟨W2.heap.size, 0, none⟩) 3 3 [50, 80, 90] := by rw [← hW3]; exact Ints.lit W2 [50, 80, 90] (by decide) (by decide)
  obtain ⟨W4, hW4⟩ : ∃ W, W3.alloc (.cells #[.slice (some ⟨W2.heap.size, 0, none⟩) 3 3] 23) = W := ⟨_, rfl⟩
  have b4 : Below W3.heap.size W3 W4 := by rw [← hW4]; exact (Below.refl _ _).alloc (Nat.le_refl _) _
  have t4 : Tab W4 (some ⟨W3.heap.size, 0, none⟩) 1 1 [[50, 80, 90]] := by rw [← hW4]; exact Tab.lit W3 i3
  obtain ⟨W5, hW5⟩ : ∃ W, W4.alloc (tabO (some ⟨w.heap.size, 0, none⟩) 3 3 (some ⟨W1.heap.size, 0, none⟩) 1 1 (some ⟨W3.heap.size, 0, none⟩) 1 1) = W := ⟨_, rfl⟩
  have b5 : Below W4.heap.size W4 W5 := by rw [← hW5]; exact (Below.refl _ _).alloc (Nat.le_refl _) _
  have x5 : HBox W5 W4.heap.size (.slice (some ⟨w.heap.size, 0, none⟩) 3 3) (.slice (some ⟨W1.heap.size, 0, none⟩) 1 1) (.slice (some ⟨W3.heap.size, 0, none⟩) 1 1) := by rw [← hW5]; exact HBox.made _ _ _ _ _
  have B5 := Lib.hid (below_then (below_then (below_then (below_then b1 b2 b1.size) b3 (Nat.le_trans b1.size b2.size)) b4 (Nat.le_trans b1.size (Nat.le_trans b2.size b3.size))) b5 (Nat.le_trans b1.size (Nat.le_trans b2.size (Nat.le_trans b3.size b4.size))))
  have J1 := Lib.hid ((((i1.below b2).below b3).below b4).below b5)
  have J2 := Lib.hid (((i2.below b3).below b4).below b5)
  have J3 := Lib.hid (t4.below b5)
  have X5 := Lib.hid x5
  have u1 := fun W => Uniform_calls 10 0 300 4 W
  rw [ex1] at u1
  have U1 := Lib.hid u1
  have u2 := fun W => Triangle_calls 12 0 300 3 1 W
  rw [ex2] at u2
  have U2 := Lib.hid u2
  have u3 := fun W (I0 : Ints W (some ⟨w.heap.size, 0, none⟩) 3 3 [300, 600, 900]) (I1 : Ints W (some ⟨W1.heap.size, 0, none⟩) 1 1 [2]) (T : Tab W (some ⟨W3.heap.size, 0, none⟩) 1 1 [[50, 80, 90]]) => Alternating_calls true 2 0 300 3 1 W I0 I1 T (by simp [ex_ok])
  rw [ex3] at u3
  have U3 := Lib.hid u3
  clear u1 u2 u3 b1 b2 b3 b4 b5 i1 i2 i3 t4 x5
  go_enter Try.func10, Try.ntmps10
  go_wp2_with fail
  refine (U1.out _).mono ?_
  rintro e w1 ⟨A1, n1, c1, rfl, s1, c5, -⟩
  obtain ⟨V1, hV1⟩ : ∃ W, w1.alloc (serO 0 300 A1 n1 c1) = W := ⟨_, rfl⟩
  have d1 : Below W5.heap.size W5 V1 := by rw [← hV1]; exact c5.alloc c5.size _
  have y1 : SBox V1 w1.heap.size 0 300 A1 n1 c1 := by rw [← hV1]; exact SBox.made _ _ _ _ _ _
  have S1 := Lib.hid (show Ints V1 A1 n1 c1 [2, 3, 2, 3] by rw [← hV1]; exact s1.alloc _)
  have Y1 := Lib.hid y1
  have C1 := Lib.hid (below_then B5.out d1 B5.out.size)
  have K1 := Lib.hid (J1.out.below d1)
  have K2 := Lib.hid (J2.out.below d1)
  have K3 := Lib.hid (J3.out.below d1)
  have X6 := Lib.hid (X5.out.below d1 X5.out.lt)
  clear c5 s1 d1 y1 J1 J2 J3 X5 B5 hW1 hW2 hW3 hW4 hW5
  go_wp2_with fail
  refine (U2.out _).mono ?_
  rintro e w2 ⟨A2, n2, c2, rfl, s2, c5, -⟩
  obtain ⟨V2, hV2⟩ : ∃ W, w2.alloc (serO 0 300 A2 n2 c2) = W := ⟨_, rfl⟩
  have d1 : Below V1.heap.size V1 V2 := by rw [← hV2]; exact c5.alloc c5.size _
  have y2 : SBox V2 w2.heap.size 0 300 A2 n2 c2 := by rw [← hV2]; exact SBox.made _ _ _ _ _ _
  have S2 := Lib.hid (show Ints V2 A2 n2 c2 [3, 6, 3] by rw [← hV2]; exact s2.alloc _)
  have Y2 := Lib.hid y2
  have Y1 := Lib.hid (Y1.out.below d1 Y1.out.lt)
  have S1 := Lib.hid (S1.out.below d1)
  have C2 := Lib.hid (below_then C1.out d1 C1.out.size)
  have K1 := Lib.hid (K1.out.below d1)
  have K2 := Lib.hid (K2.out.below d1)
  have K3 := Lib.hid (K3.out.below d1)
  have X7 := Lib.hid (X6.out.below d1 X6.out.lt)
  clear c5 s2 d1 y2 C1 X6 hV1
  have U4 := Lib.hid (U3.out V2 K1.out K2.out K3.out)
  obtain ⟨k0, k1, k2⟩ : V2.cell? ⟨W4.heap.size, 0, none⟩ = some (.slice (some ⟨w.heap.size, 0, none⟩) 3 3) ∧ V2.cell? ⟨W4.heap.size, 1, none⟩ = some (.slice (some ⟨W1.heap.size, 0, none⟩) 1 1) ∧ V2.cell? ⟨W4.heap.size, 2, none⟩ = some (.slice (some ⟨W3.heap.size, 0, none⟩) 1 1) := ⟨X7.out.c0, X7.out.c1, X7.out.c2⟩
  go_wp2_with fail
  refine (U4.out).mono ?_
  rintro e w3 ⟨A3, n3, c3, rfl, s3, c5, -⟩
  obtain ⟨V3, hV3⟩ : ∃ W, w3.alloc (serO 0 300 A3 n3 c3) = W := ⟨_, rfl⟩
  have d1 : Below V2.heap.size V2 V3 := by rw [← hV3]; exact c5.alloc c5.size _
  have y3 : SBox V3 w3.heap.size 0 300 A3 n3 c3 := by rw [← hV3]; exact SBox.made _ _ _ _ _ _
  have S3 := Lib.hid (show Ints V3 A3 n3 c3 [10, 50, 30] by rw [← hV3]; exact s3.alloc _)
  have Y3 := Lib.hid y3
  have Y1 := Lib.hid (Y1.out.below d1 Y1.out.lt)
  have Y2 := Lib.hid (Y2.out.below d1 Y2.out.lt)
  have S1 := Lib.hid (S1.out.below d1)
  have S2 := Lib.hid (S2.out.below d1)
  have C3 := Lib.hid (below_then C2.out d1 C2.out.size)
  clear c5 s3 d1 y3 C2 X7 K1 K2 K3 U3 U4 k0 k1 k2 hV2
  obtain ⟨L1, hL1⟩ : ∃ W, V3.alloc (.cells #[.int .i64 2, .int .i64 3, .int .i64 2, .int .i64 3] 3) = W := ⟨_, rfl⟩
  have d1 : Below V3.heap.size V3 L1 := by rw [← hL1]; exact (Below.refl _ _).alloc (Nat.le_refl _) _
  have l1 : Ints L1 (some ⟨V3.heap.size, 0, none⟩) 4 4 [2, 3, 2, 3] := by rw [← hL1]; exact Ints.lit V3 [2, 3, 2, 3] (by decide) (by decide)
  have E1 := Lib.hid (equal_same L1 (S1.out.below d1) l1)
  have Y2 := Lib.hid (Y2.out.below d1 Y2.out.lt)
  have Y3 := Lib.hid (Y3.out.below d1 Y3.out.lt)
  have S2 := Lib.hid (S2.out.below d1)
  have S3 := Lib.hid (S3.out.below d1)
  have C4 := Lib.hid (below_then C3.out d1 C3.out.size)
  have y1 := Y1.out.c2
  clear d1 l1 C3 S1
  go_wp2_with fail
  refine (E1.out).mono ?_
  rintro e w4 ⟨rfl, d2⟩
  obtain ⟨L2, hL2⟩ : ∃ W, w4.alloc (.cells #[.int .i64 3, .int .i64 6, .int .i64 3] 3) = W := ⟨_, rfl⟩
  have d1 : Below L1.heap.size L1 L2 := by rw [← hL2]; exact d2.alloc d2.size _
  have l1 : Ints L2 (some ⟨w4.heap.size, 0, none⟩) 3 3 [3, 6, 3] := by rw [← hL2]; exact Ints.lit w4 [3, 6, 3] (by decide) (by decide)
  have E2 := Lib.hid (equal_same L2 (S2.out.below d1) l1)
  have Y3 := Lib.hid (Y3.out.below d1 Y3.out.lt)
  have y2 := Y2.out.below d2 Y2.out.lt
  have y2 := y2.c2
  have S3 := Lib.hid (S3.out.below d1)
  have C5 := Lib.hid (below_then C4.out d1 C4.out.size)
  clear d1 d2 l1 C4 S2 y1
  go_wp2_with fail
  refine (E2.out).mono ?_
  rintro e w5 ⟨rfl, d2⟩
  obtain ⟨L3, hL3⟩ : ∃ W, w5.alloc (.cells #[.int .i64 10, .int .i64 50, .int .i64 30] 3) = W := ⟨_, rfl⟩
  have d1 : Below L2.heap.size L2 L3 := by rw [← hL3]; exact d2.alloc d2.size _
  have l1 : Ints L3 (some ⟨w5.heap.size, 0, none⟩) 3 3 [10, 50, 30] := by rw [← hL3]; exact Ints.lit w5 [10, 50, 30] (by decide) (by decide)
  have E3 := Lib.hid (equal_same L3 (S3.out.below d1) l1)
  have y3 := Y3.out.below d2 Y3.out.lt
  have y3 := y3.c2
  have C6 := Lib.hid (below_then C5.out d1 C5.out.size)
  clear d1 d2 l1 C5 S3 y2
  go_wp2_with fail
  refine (E3.out).mono ?_
  rintro e w6 ⟨rfl, d2⟩
  have C7 := Lib.hid (below_then C6.out d2 C6.out.size)
  clear d2
  go_wp2
  go_ret
  exact ⟨rfl, C7.out⟩
end Go.Proofs.Ytfhikdgdckfalaa

/- A record that a call handed back, kept in a block of its own. -/
namespace Go.Proofs.Ytfhikdgdckfalaa
open Go.RowKit
set_option linter.unusedVariables false

/-- The record s reads so in W; it stands in the block g. -/
structure KSer (W : World) (g : Nat) (s : SerD) (A : Option Addr) (n c : Nat) : Prop where
  i : Ints W A n c s.ds
  b : SBox W g s.f s.st A n c
theorem KSer.below {W W' : World} {g : Nat} {s : SerD} {A : Option Addr} {n c : Nat} (h : KSer W g s A n c) (hb : Below W.heap.size W W') : KSer W' g s A n c :=
  ⟨h.i.below hb, h.b.below hb h.b.lt⟩
theorem KSer.cells {W : World} {g : Nat} {s : SerD} {A : Option Addr} {n c : Nat} (h : KSer W g s A n c) : W.cell? ⟨g, 0, none⟩ = some (.int .i64 s.f) ∧ W.cell? ⟨g, 1, none⟩ = some (.int .i64 s.st) ∧ W.cell? ⟨g, 2, none⟩ = some (.slice A n c) := ⟨h.b.c0, h.b.c1, h.b.c2⟩
theorem keep_ser {w w1 : World} {s : SerD} {A : Option Addr} {n c : Nat} (hi : Ints w1 A n c s.ds) (hb : Below w.heap.size w w1) : ∃ W, w1.alloc (serO s.f s.st A n c) = W ∧ KSer W w1.heap.size s A n c ∧ Below w.heap.size w W :=
  ⟨_, rfl, ⟨hi.alloc _, SBox.made _ _ _ _ _ _⟩, hb.alloc hb.size _⟩
/-- A record kept in a new block: what a cut around the making of one says. -/
def Kept (w1 : World) (s : SerD) (t : Value) (wx : World) : Prop := ∃ g A n c, t = .pointer (some ⟨g, 0, none⟩) ∧ KSer wx g s A n c ∧ Below w1.heap.size w1 wx ∧ ∀ ad, A = some ad → w1.heap.size ≤ ad.block
theorem kept_new {w2 w3 : World} {F st : Int} {ds : List Int} {A : Option Addr} {n c : Nat} (bb : Below w2.heap.size w2 w3) (i : Ints w3 A n c ds) (g : ∀ ad, A = some ad → w2.heap.size ≤ ad.block) : Kept w2 ⟨F, st, ds⟩ (.pointer (some ⟨w3.heap.size, 0, none⟩)) (w3.alloc (serO F st A n c)) :=
  ⟨_, A, n, c, rfl, ⟨i.alloc _, SBox.made _ _ _ _ _ _⟩, bb.alloc bb.size _, g⟩
theorem kept_old {w2 w3 : World} {g : Nat} {F st : Int} {ds : List Int} {A : Option Addr} {n c : Nat} (z : ZBox w3 g) (hg : w2.heap.size ≤ g) (bb : Below w2.heap.size w2 w3) (i : Ints w3 A n c ds) (h : ∀ ad, A = some ad → w2.heap.size ≤ ad.block ∧ ad.block ≠ g) : Kept w2 ⟨F, st, ds⟩ (.pointer (some ⟨g, 0, none⟩)) (((w3.setCell ⟨g, 0, none⟩ (.int .i64 F)).setCell ⟨g, 1, none⟩ (.int .i64 st)).setCell ⟨g, 2, none⟩ (.slice A n c)) := by
  have P := put3 z.b z.f F st A n c
  exact ⟨_, A, n, c, rfl, ⟨P.int _ _ _ _ i (fun ad e => (h ad e).2), P.b⟩, P.bel _ _ hg bb, fun ad e => (h ad e).1⟩
end Go.Proofs.Ytfhikdgdckfalaa
