/- The law HydrographCentres returns true. -/
import Derived.Test.YtlkocedhhdknoaaCentreP
import Derived.Test.YtlkocedhhdknoaaAwake
namespace Go.Proofs.Ytlkocedhhdknoaa
open Go.RowKit
set_option linter.unusedVariables false

/-- Whether z is a volume that the law leaves out. -/
def bigB (z : Int) : Bool := decide (1099511627776 < z) && decide (z ≤ 1125899906842624)
theorem big1_calls (z : Int) (w : World) :
    Calls Try.prog 34 #[.int .i64 z] w fun e w' => e = .returned (.bool (bigB z)) ∧ w = w' := by
  unfold bigB
  by_cases h : 1099511627776 < z
  · rw [decide_eq_true h, Bool.true_and]
    go_enter Try.func34, Try.ntmps34
    go_wp2
    go_ret
    exact ⟨rfl, rfl⟩
  · rw [decide_eq_false h, Bool.false_and]
    go_enter Try.func34, Try.ntmps34
    go_wp2
    go_ret
    exact ⟨rfl, rfl⟩

set_option maxHeartbeats 1000000 in
theorem indexFunc_big {A : Option Addr} {n c : Nat} {zs : List Int} (w : World) (h : Ints w A n c zs) :
    Calls Try.prog 49 #[.slice A n c, .func (.func 34) #[] #[]] w (Found bigB zs w) := by
  have hcap := h.cap
  have hmax := h.max
  have hfew := h.few
  have HL := Lib.hid h.len
  have H := Lib.hid h
  have hcl := fun z => big1_calls z w
  have HC := Lib.hid hcl
  clear h hcl
  go_enter Try.func49, Try.ntmps49
  go_wp2
  go_loop [8] (fun i => ∃ k : Nat, k ≤ n ∧ i = .int .i64 k ∧ ∀ j, j < k → bigB (el zs j) = false) (fun i => n - (intOf i).toNat)
  case atStart => exact ⟨0, Nat.zero_le _, rfl, fun j hj => absurd hj (by omega)⟩
  case round =>
    obtain ⟨k, hk, rfl, hno⟩ := hrel
    have HN := Lib.hid hno
    clear hno
    by_cases hlt : k < n
    · obtain ⟨ad, rfl, hl, hc⟩ := H.out.at_ hlt
      cases hbad : bigB (el zs k)
      · have HB := Lib.hid hbad
        have hcl := HC.out (el zs k)
        rw [hbad] at hcl
        have HCL := Lib.hid hcl
        clear hbad hcl
        go_wp2_with fail
        refine HCL.out.mono ?_
        rintro e w' ⟨rfl, rfl⟩
        go_wp2
        go_round
        case rel => exact ⟨k + 1, by omega, by go_num, fun j hj => by
          by_cases hjk : j = k
          · subst hjk; exact HB.out
          · exact HN.out j (by omega)⟩
        case measure => simp [intOf]; try omega
      · have HB := Lib.hid hbad
        have hcl := HC.out (el zs k)
        rw [hbad] at hcl
        have HCL := Lib.hid hcl
        clear hbad hcl
        go_wp2_with fail
        refine HCL.out.mono ?_
        rintro e w' ⟨rfl, rfl⟩
        go_wp2
        go_ret
        exact ⟨k, rfl, rfl, by omega, by omega, by rw [any_at (by rw [HL.out]; exact hlt) HB.out, decide_eq_true (by omega)]⟩
    · go_wp2
      go_ret
      exact ⟨-1, rfl, rfl, by omega, by omega, by rw [any_take (fun j hj => HN.out j (by rw [HL.out] at hj; omega))]; rfl⟩

theorem containsFunc_big {A : Option Addr} {n c : Nat} {zs : List Int} (w : World) (h : Ints w A n c zs) :
    Calls Try.prog 33 #[.slice A n c, .func (.func 34) #[] #[]] w fun e w' => e = .returned (.bool (zs.any bigB)) ∧ w = w' := by
  have hi := indexFunc_big w h
  have HI := Lib.hid hi
  clear hi h
  go_enter Try.func33, Try.ntmps33
  go_wp2_with fail
  refine HI.out.mono ?_
  rintro e w' ⟨r, rfl, rfl, hr0, hr1, hr⟩
  have HR := Lib.hid hr
  clear hr
  go_wp2
  go_ret
  exact ⟨ret_b HR.out.symm, rfl⟩

theorem cenOk {zs : List Int} (hs : seriesB zs = true) (hl : zs.length ≤ 100 ∨ 10000 < zs.length) (hb : zs.any bigB = false) : CenOk zs := by
  unfold seriesB at hs
  rw [Bool.and_eq_true, decide_eq_true_eq] at hs
  refine ⟨by omega, fun k hk => ?_⟩
  have h1 := inB_el hs.2 hk
  rw [List.any_eq_false] at hb
  have h2 := hb _ (el_mem hk)
  unfold bigB at h2
  simp at h2
  omega
theorem Centre_calls {A : Option Addr} {n c : Nat} {zs : List Int} (w : World) (h : Ints w A n c zs) (hl : zs.length ≤ 100 ∨ 10000 < zs.length) (hb : zs.any bigB = false) :
    Calls Try.prog 35 #[.slice A n c] w (RetF (CenV zs) w) := by
  unfold CenV
  cases hs : seriesB zs
  · rw [if_neg (by decide)]; exact Centre_bad w h hs
  · rw [if_pos rfl]; exact Centre_in w h hs (cenOk hs hl hb)
theorem Centre_ref {A : Option Addr} {n c : Nat} {zs : List Int} (w : World) (h : Ints w A n c zs) (hl : zs.length ≤ 100 ∨ 10000 < zs.length) (hb : zs.any bigB = false) :
    Calls Try.prog 36 #[.slice A n c] w (RetF (CenV zs) w) := by
  unfold CenV
  cases hs : seriesB zs
  · rw [if_neg (by decide)]; exact CentreR_bad w h hs
  · rw [if_pos rfl]; exact CentreR_in w h hs (cenOk hs hl hb)

set_option maxHeartbeats 1000000 in
theorem Centres_calls {A : Option Addr} {n c : Nat} {zs : List Int} (w : World) (h : Ints w A n c zs) :
    Calls Try.prog 9 #[.slice A n c] w fun e w' => e = .returned (.bool true) ∧ Below w.heap.size w w' := by
  have HL := Lib.hid h.len
  have H := Lib.hid h
  clear h
  go_enter Try.func9, Try.ntmps9
  go_wp2_with fail
  refine (awake_calls _).mono ?_
  rintro e w1 ⟨rfl, b1⟩
  have I1 := Lib.hid (H.out.below b1)
  have B1 := Lib.hid b1
  have m1 := many_calls 100 10000 (by omega) (by omega) w1 I1.out
  obtain ⟨p, hp⟩ : ∃ p, (decide ((100 : Int) < n) && decide ((n : Int) ≤ 10000) || decide ((10000 : Int) + 100 < n)) = p := ⟨_, rfl⟩
  rw [hp] at m1
  have HP := Lib.hid hp
  have M1 := Lib.hid m1
  clear b1 m1 hp
  cases p
  · have cb := containsFunc_big w1 I1.out
    obtain ⟨q, hq⟩ : ∃ q, zs.any bigB = q := ⟨_, rfl⟩
    rw [hq] at cb
    have CB := Lib.hid cb
    have HQ := Lib.hid hq
    clear cb hq
    go_wp2_with fail
    refine M1.out.mono ?_
    rintro e w2 ⟨rfl, rfl⟩
    cases q
    · have hl : zs.length ≤ 100 ∨ 10000 < zs.length := by
        have := HP.out
        rw [HL.out]
        simp at this
        omega
      have HC1 := Lib.hid (fun W (I : Ints W A n c zs) => Centre_calls W I hl HQ.out)
      have HC2 := Lib.hid (fun W (I : Ints W A n c zs) => Centre_ref W I hl HQ.out)
      clear hl
      generalize CenV zs = V at *
      go_wp2_with fail
      refine CB.out.mono ?_
      rintro e w2 ⟨rfl, rfl⟩
      go_wp2_with fail
      refine (HC1.out _ I1.out).mono ?_
      rintro e w2 ⟨rfl, b2⟩
      have I2 := Lib.hid (I1.out.below b2)
      have B2 := Lib.hid (below_then B1.out b2 B1.out.size)
      clear b2
      go_wp2_with fail
      refine (HC2.out _ (I2.out.alloc _)).mono ?_
      rintro e w3 ⟨rfl, b3⟩
      have x0 : w3.cell? ⟨w2.heap.size, 0, none⟩ = some (.int .i64 V.1.1) := (b3.cell (p := ⟨w2.heap.size, 0, none⟩) (by simp)).trans (by go_simp)
      have x1 : w3.cell? ⟨w2.heap.size, 1, none⟩ = some (.int .i64 V.1.2) := (b3.cell (p := ⟨w2.heap.size, 1, none⟩) (by simp)).trans (by go_simp)
      have hlt : w2.heap.size < w3.heap.size := by have := b3.size; simp at this; omega
      have B3 := Lib.hid (below_then (B2.out.alloc B2.out.size _) b3 (by have := B2.out.size; simp; omega))
      clear b3
      go_wp2
      go_ret
      exact ⟨rfl, B3.out.alloc B3.out.size _⟩
    · go_wp2_with fail
      refine CB.out.mono ?_
      rintro e w2 ⟨rfl, rfl⟩
      go_wp2
      go_ret
      exact ⟨rfl, B1.out⟩
  · go_wp2_with fail
    refine M1.out.mono ?_
    rintro e w2 ⟨rfl, rfl⟩
    go_wp2
    go_ret
    exact ⟨rfl, B1.out⟩
end Go.Proofs.Ytlkocedhhdknoaa
