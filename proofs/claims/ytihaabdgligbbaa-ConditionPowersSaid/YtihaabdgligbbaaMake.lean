/- Make of the program and of the reference, for numbers that are not negative. -/
import Derived.Test.YtihaabdgligbbaaOwn
import Derived.Test.YtihaabdgligbbaaArgs
import Derived.BigRegion
import Derived.Handy
import Derived.BigQuiet
namespace Go.Proofs.Ytihaabdgligbbaa
open Go.RowKit
set_option linter.unusedVariables false

/-- What Make answers: a fraction and an error number. -/
def MakeV (N D : Nat) : (Int × Int) × Int :=
  if D = 0 then ((0, 0), 16)
  else if 1073741824 < N / Nat.gcd N D ∨ 1073741824 < D / Nat.gcd N D then ((0, 0), 5)
  else ((((N / Nat.gcd N D : Nat) : Int), ((D / Nat.gcd N D : Nat) : Int)), 0)
theorem gcd_step (a b : Nat) : Nat.gcd b (a % b) = Nat.gcd a b := by
  rw [Nat.gcd_comm a b, Nat.gcd_rec b a, Nat.gcd_comm]
theorem i64_of_nat (n : Nat) (h : (n : Int) ≤ 9223372036854775807) : IntKind.i64.wrap (n : Int) = n := by
  simp [IntKind.wrap, IntKind.bits, IntKind.signed]; omega
theorem u64_of_nat (n : Nat) (h : (n : Int) ≤ 18446744073709551615) : IntKind.u64.wrap (n : Int) = n := by
  rw [IntKind.wrap_u64]; omega
/-- A call's answer: a fraction and an error number. -/
abbrev RetF (V : (Int × Int) × Int) (w : World) : Ending → World → Prop := fun e w' => e = .returned (.tuple #[.agg #[.int .i64 V.1.1, .int .i64 V.1.2], .int .i64 V.2]) ∧ Below w.heap.size w w'

set_option maxHeartbeats 1000000 in
theorem common_calls (a0 b0 : Nat) (ha : (a0 : Int) ≤ 18446744073709551615) (hb : (b0 : Int) ≤ 18446744073709551615) (w : World) :
    Calls Try.prog 62 #[.int .u64 a0, .int .u64 b0] w fun e w' => e = .returned (.int .u64 (Nat.gcd a0 b0 : Nat)) ∧ ∃ k, w' = w.drewN k := by
  obtain ⟨g, hg⟩ : ∃ g, Nat.gcd a0 b0 = g := ⟨_, rfl⟩
  rw [hg]
  have HG := Lib.hid hg
  clear hg
  go_enter Try.func62, Try.ntmps62
  go_wp2
  go_loopw [0, 1] (fun va vb wr => ∃ a b k : Nat, va = .int .u64 a ∧ vb = .int .u64 b ∧ (a : Int) ≤ 18446744073709551615 ∧ (b : Int) ≤ 18446744073709551615 ∧ Hid (Nat.gcd a b = g) ∧ wr = w.drewN k) (fun _ vb _ => (intOf vb).toNat)
  case atStart => exact ⟨a0, b0, 0, rfl, rfl, ha, hb, HG, rfl⟩
  case round =>
    obtain ⟨a, b, k, rfl, rfl, hia, hib, hg, rfl⟩ := hrel
    by_cases hz : b = 0
    · subst hz
      go_wp2
      go_ret
      exact ⟨ret_i (by rw [← hg.out]; simp), k, rfl⟩
    · have hz' : ((b : Int) != 0) = true := by simp [hz]
      have hlt : a % b < b := Nat.mod_lt _ (by omega)
      go_wp2
      go_region
      all_goals (try go_wp2)
      all_goals (
        go_roundw
        case rel =>
          exact ⟨b, a % b, k + 1, rfl, by rw [Int.natCast_emod], hib, by omega, Lib.hid (by rw [gcd_step, hg.out]), rfl⟩
        case measure => simp [intOf]; omega)
set_option maxHeartbeats 1000000 in
theorem size_calls (a : Nat) (ha : (a : Int) ≤ 9223372036854775807) (w : World) :
    Calls Try.prog 61 #[.int .i64 a] w fun e w' => e = .returned (.int .u64 a) ∧ w = w' := by
  go_enter Try.func61, Try.ntmps61
  go_wp2
  go_ret
  exact ⟨rfl, rfl⟩
set_option maxHeartbeats 1000000 in
theorem Make_zero (N : Nat) (hN : (N : Int) ≤ 9223372036854775807) (w : World) :
    Calls Try.prog 42 #[.int .i64 N, .int .i64 0] w (RetF (MakeV N 0) w) := by
  go_enter Try.func42, Try.ntmps42
  go_wp2
  go_returns
  exact ⟨rfl, (Below.refl _ _).alloc (Nat.le_refl _) _⟩
set_option maxHeartbeats 1000000 in
theorem Make_more (N D : Nat) (hN : (N : Int) ≤ 9223372036854775807) (hD : (D : Int) ≤ 9223372036854775807) (h0 : 0 < D) (w : World) :
    Calls Try.prog 42 #[.int .i64 N, .int .i64 D] w (RetF (MakeV N D) w) := by
  obtain ⟨V, hV⟩ : ∃ V, MakeV N D = V := ⟨_, rfl⟩
  rw [hV]
  unfold MakeV at hV
  rw [if_neg (by omega)] at hV
  have hg0 : 0 < Nat.gcd N D := Nat.gcd_pos_of_pos_right _ h0
  have c1 := Lib.hid (size_calls N hN)
  have c2 := Lib.hid (size_calls D hD)
  have c3 := Lib.hid (common_calls N D (by omega) (by omega))
  generalize Nat.gcd N D = g at *
  have e1 : (N : Int) / (g : Int) = ((N / g : Nat) : Int) := by rw [Int.natCast_ediv]
  have e2 : (D : Int) / (g : Int) = ((D / g : Nat) : Int) := by rw [Int.natCast_ediv]
  have l1 : N / g ≤ N := Nat.div_le_self _ _
  have l2 : D / g ≤ D := Nat.div_le_self _ _
  generalize N / g = n at *
  generalize D / g = d at *
  have hn : (n : Int) ≤ 9223372036854775807 := by omega
  have hd : (d : Int) ≤ 9223372036854775807 := by omega
  have hz : ((D : Int) == 0) = false := by simp; omega
  have hg : ((g : Int) == 0) = false := by simp; omega
  have HV := Lib.hid hV
  clear hV l1 l2
  go_enter Try.func42, Try.ntmps42
  go_wp2_with fail
  refine (c1.out _).mono ?_
  rintro e w1 ⟨rfl, rfl⟩
  go_wp2_with fail
  refine (c2.out _).mono ?_
  rintro e w1 ⟨rfl, rfl⟩
  go_wp2_with fail
  refine (c3.out _).mono ?_
  rintro e w1 ⟨rfl, k, rfl⟩
  have i1 := i64_of_nat n hn
  have i2 := i64_of_nat d hd
  by_cases hbig : 1073741824 < (n : Int) ∨ 1073741824 < (d : Int)
  · go_wp2_with fail
    go_region
    all_goals (try go_wp2_with fail)
    all_goals go_returns
    all_goals (
      have h := HV.out
      rw [if_pos (by omega)] at h
      subst h
      exact ⟨rfl, ((below_drewN ((Below.refl _ _).alloc (Nat.le_refl _) _) _).setCell (by simp) _).setCell (by simp) _⟩)
  · go_wp2_with fail
    go_region
    all_goals (try go_wp2_with fail)
    all_goals go_returns
    all_goals (
      have h := HV.out
      rw [if_neg (by omega)] at h
      subst h
      exact ⟨rfl, ((((below_drewN ((Below.refl _ _).alloc (Nat.le_refl _) _) _).setCell (by simp) _).setCell (by simp) _).alloc (by simp) _)⟩)
theorem Make_calls (N D : Nat) (hN : (N : Int) ≤ 9223372036854775807) (hD : (D : Int) ≤ 9223372036854775807) (w : World) :
    Calls Try.prog 42 #[.int .i64 N, .int .i64 D] w (RetF (MakeV N D) w) := by
  by_cases h : D = 0
  · subst h; exact Make_zero N hN w
  · exact Make_more N D hN hD (by omega) w

set_option maxHeartbeats 1000000 in
theorem MakeR_zero (N : Nat) (hN : (N : Int) ≤ 9223372036854775807) (w : World) :
    Calls Try.prog 46 #[.int .i64 N, .int .i64 0] w (RetF (MakeV N 0) w) := by
  go_enter Try.func46, Try.ntmps46
  go_wp2
  go_returns
  exact ⟨rfl, (Below.refl _ _).alloc (Nat.le_refl _) _⟩
theorem tmod_neg (a b : Nat) : (-(a : Int)).tmod (-(b : Int)) = -((a % b : Nat) : Int) := by
  rw [Int.tmod_neg, Int.neg_tmod, Int.ofNat_tmod]
theorem tdiv_neg_nat (a b : Nat) : (a : Int).tdiv (-(b : Int)) = -((a / b : Nat) : Int) := by
  rw [Int.tdiv_neg, Int.ofNat_tdiv]

set_option maxHeartbeats 1000000 in
theorem MakeR_more (N D : Nat) (hN : (N : Int) ≤ 9223372036854775807) (hD : (D : Int) ≤ 9223372036854775807) (h0 : 0 < D) (w : World) :
    Calls Try.prog 46 #[.int .i64 N, .int .i64 D] w (RetF (MakeV N D) w) := by
  obtain ⟨V, hV⟩ : ∃ V, MakeV N D = V := ⟨_, rfl⟩
  rw [hV]
  unfold MakeV at hV
  rw [if_neg (by omega)] at hV
  have hg0 : 0 < Nat.gcd N D := Nat.gcd_pos_of_pos_right _ h0
  have hgD : Nat.gcd N D ≤ D := Nat.gcd_le_right _ h0
  obtain ⟨g, hg⟩ : ∃ g, Nat.gcd N D = g := ⟨_, rfl⟩
  rw [hg] at hV hg0 hgD
  have HG := Lib.hid hg
  clear hg
  have l1 : N / g ≤ N := Nat.div_le_self _ _
  have l2 : D / g ≤ D := Nat.div_le_self _ _
  have l3 : 0 < D / g := Nat.div_pos hgD hg0
  have e1 := tdiv_neg_nat N g
  have e2 := tdiv_neg_nat D g
  generalize N / g = n at *
  generalize D / g = d at *
  have hn : (n : Int) ≤ 9223372036854775807 := by omega
  have hd : (d : Int) ≤ 9223372036854775807 := by omega
  have hd0 : 0 < (d : Int) := by omega
  have hz : ((D : Int) == 0) = false := by simp; omega
  have hD0 : 0 < (D : Int) := by omega
  have HV := Lib.hid hV
  have HE1 := Lib.hid e1
  have HE2 := Lib.hid e2
  clear hV l1 l2 l3 hgD e1 e2
  go_enter Try.func46, Try.ntmps46
  by_cases hp : 0 < (N : Int)
  all_goals go_wp2
  all_goals (
    go_loopw [6, 7] (fun va vb wr => ∃ (x y k : Nat) (a b : Int), va = .int .i64 a ∧ vb = .int .i64 b ∧ Hid (a = -(x : Int)) ∧ Hid (b = -(y : Int)) ∧ -9223372036854775807 ≤ a ∧ a ≤ 0 ∧ -9223372036854775807 ≤ b ∧ b ≤ 0 ∧ Hid (Nat.gcd x y = g) ∧ wr = (w.alloc (Obj.cells #[Value.int IntKind.i64 0, Value.int IntKind.i64 0] 27)).drewN k) (fun _ vb _ => (intOf vb).natAbs)
    case atStart => exact ⟨N, D, 0, _, _, rfl, rfl, Lib.hid (by omega), Lib.hid rfl, by omega, by omega, by omega, by omega, HG, rfl⟩
    case round =>
      obtain ⟨x, y, k, a, b, rfl, rfl, ha, hb, a0, a1, b0, b1, hg, rfl⟩ := hrel
      by_cases hy : y = 0
      · subst hy
        have hbz : b = 0 := by have := hb.out; omega
        subst hbz
        have hag : Hid (a = -(g : Int)) := Lib.hid (by rw [ha.out, ← hg.out]; simp)
        have ha1 : a < 0 := by rw [hag.out]; omega
        have haz : (a == 0) = false := by simp; omega
        obtain ⟨q, hq⟩ : ∃ q : Int, (N : Int).tdiv a = q := ⟨_, rfl⟩
        obtain ⟨r, hr⟩ : ∃ r : Int, (D : Int).tdiv a = r := ⟨_, rfl⟩
        have hq' : q = -(n : Int) := by rw [← hq, hag.out, HE1.out]
        have hr' : r = -(d : Int) := by rw [← hr, hag.out, HE2.out]
        have hr0 : r < 0 := by omega
        have hq2 : -q = (n : Int) := by omega
        have hr2 : -r = (d : Int) := by omega
        have hq3 : -9223372036854775807 ≤ q ∧ q ≤ 0 := by omega
        clear hp
        by_cases hbig : 1073741824 < (n : Int)
        · go_wp2
          go_returns
          have h := HV.out
          rw [if_pos (by omega)] at h
          subst h
          exact ⟨rfl, ((below_drewN ((Below.refl _ _).alloc (Nat.le_refl _) _) _).setCell (by simp) _).setCell (by simp) _⟩
        · by_cases hbig2 : 1073741824 < (d : Int)
          · go_wp2
            go_returns
            have h := HV.out
            rw [if_pos (by omega)] at h
            subst h
            exact ⟨rfl, ((below_drewN ((Below.refl _ _).alloc (Nat.le_refl _) _) _).setCell (by simp) _).setCell (by simp) _⟩
          · go_wp2
            go_returns
            have h := HV.out
            rw [if_neg (by omega)] at h
            subst h
            exact ⟨rfl, ((below_drewN ((Below.refl _ _).alloc (Nat.le_refl _) _) _).setCell (by simp) _).setCell (by simp) _⟩
      · have hz' : (b != 0) = true := by have := hb.out; simp; omega
        have hbn : b < 0 := by have := hb.out; omega
        have hlt : x % y < y := Nat.mod_lt _ (by omega)
        have he : a.tmod b = -((x % y : Nat) : Int) := by rw [ha.out, hb.out, tmod_neg]
        have hbb := hb.out
        generalize hm : x % y = m at *
        clear hbb
        go_wp2
        go_region
        all_goals (try go_wp2)
        all_goals (
          go_roundw
          case rel => exact ⟨y, m, k + 1, b, _, rfl, rfl, hb, Lib.hid rfl, b0, b1, by have := hb.out; omega, by omega, Lib.hid (by rw [← hm, gcd_step, hg.out]), rfl⟩
          case measure => have := hb.out; simp [intOf]; omega))
theorem MakeR_calls (N D : Nat) (hN : (N : Int) ≤ 9223372036854775807) (hD : (D : Int) ≤ 9223372036854775807) (w : World) :
    Calls Try.prog 46 #[.int .i64 N, .int .i64 D] w (RetF (MakeV N D) w) := by
  by_cases h : D = 0
  · subst h; exact MakeR_zero N hN w
  · exact MakeR_more N D hN hD (by omega) w
end Go.Proofs.Ytihaabdgligbbaa
