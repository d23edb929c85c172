/- The reference's Valid, and Same, at records. -/
import Derived.Test.YtchnfahgmceohaaSer
import Derived.Deep.QuietTactic
import Derived.BigQuiet
namespace Go.Proofs.Ytchnfahgmceohaa
open Go.RowKit
set_option linter.unusedVariables false

set_option maxHeartbeats 2000000 in
set_option maxRecDepth 100000 in
theorem rValid_calls {A : Option Addr} {n c : Nat} {ds : List Int} (f st : Int) (w : World) (h : Ints w A n c ds) :
    Calls Try.prog 39 #[serA f st A n c] w fun e w' => e = .returned (.bool (validS f st ds)) ∧ Below w.heap.size w w' := by
  have hcap := h.cap
  have hmax := h.max
  have S := SBox.made w f st A n c
  have HB := Lib.hid ((Below.refl w.heap.size w).alloc (Nat.le_refl _) (serO f st A n c))
  unfold validS
  have hlen := h.len
  rw [hlen]
  obtain ⟨s0, s1, s2, sl⟩ := S
  have i1 := fun W => Instant_ref f W
  have i2 := fun W => Instant_ref (f + st * n) W
  have i3 := fun W => Length_ref st W
  cases hf : frameB f st n
  · rw [Bool.false_and]
    unfold frameB at hf
    cases hi : instB f
    · rw [hi] at i1
      have I1 := Lib.hid i1
      clear h hf hi i1 i2 i3 hlen
      go_enter Try.func39, Try.ntmps39
      go_wp2_with fail
      refine (I1.out _).mono ?_
      rintro e w1 ⟨rfl, rfl⟩
      go_wp2
      go_ret
      exact ⟨rfl, HB.out⟩
    rw [hi, Bool.true_and] at hf
    rw [hi] at i1
    have I1 := Lib.hid i1
    cases hj : lenB st
    · rw [hj] at i3
      have I3 := Lib.hid i3
      clear h hf hi i1 i2 i3 hj hlen
      go_enter Try.func39, Try.ntmps39
      go_wp2_with fail
      refine (I1.out _).mono ?_
      rintro e w1 ⟨rfl, rfl⟩
      go_wp2_with fail
      refine (I3.out _).mono ?_
      rintro e w1 ⟨rfl, rfl⟩
      go_wp2
      go_ret
      exact ⟨rfl, HB.out⟩
    rw [hj, Bool.true_and] at hf
    rw [hj] at i3
    have I3 := Lib.hid i3
    by_cases h3 : 10000 < (n : Int)
    · clear h hf hi hj i1 i2 i3 hlen
      go_enter Try.func39, Try.ntmps39
      go_wp2_with fail
      refine (I1.out _).mono ?_
      rintro e w1 ⟨rfl, rfl⟩
      go_wp2_with fail
      refine (I3.out _).mono ?_
      rintro e w1 ⟨rfl, rfl⟩
      go_wp2
      go_ret
      exact ⟨rfl, HB.out⟩
    rw [decide_eq_true (show n ≤ 10000 by omega), Bool.true_and] at hf
    have hs := lenB_iff.1 hj
    obtain ⟨P, hP⟩ : ∃ P, st * (n : Int) = P := ⟨_, rfl⟩
    have hp0 : 0 ≤ P := by rw [← hP]; exact Int.mul_nonneg (by omega) (by omega)
    have hp1 : P ≤ 86400 * 10000 := by rw [← hP]; exact Int.mul_le_mul (by omega) (by omega) (by omega) (by omega)
    rw [hf, hP] at i2
    have hff := instB_iff.1 hi
    have I2 := Lib.hid i2
    clear h hf hi hj i1 i2 i3 hlen
    go_enter Try.func39, Try.ntmps39
    go_wp2_with fail
    refine (I1.out _).mono ?_
    rintro e w1 ⟨rfl, rfl⟩
    go_wp2_with fail
    refine (I3.out _).mono ?_
    rintro e w1 ⟨rfl, rfl⟩
    go_wp2_with fail
    refine (I2.out _).mono ?_
    rintro e w1 ⟨rfl, rfl⟩
    go_wp2
    go_ret
    exact ⟨rfl, HB.out⟩
  · rw [Bool.true_and]
    obtain ⟨f0, f1, k0, k1, n1, e0, e1⟩ := frameB_iff.1 hf
    rw [instB_iff.2 ⟨f0, f1⟩] at i1
    rw [instB_iff.2 ⟨e0, e1⟩] at i2
    rw [lenB_iff.2 ⟨k0, k1⟩] at i3
    obtain ⟨P, hP⟩ : ∃ P, st * (n : Int) = P := ⟨_, rfl⟩
    have hp0 : 0 ≤ P := by rw [← hP]; exact Int.mul_nonneg (by omega) (by omega)
    have hp1 : P ≤ 86400 * 10000 := by rw [← hP]; exact Int.mul_le_mul (by omega) (by omega) (by omega) (by omega)
    rw [hP] at i2 e0 e1
    obtain ⟨V, hV⟩ : ∃ V, (!ds.any badD) = V := ⟨_, rfl⟩
    rw [hV]
    have HV := Lib.hid hV
    have I1 := Lib.hid i1
    have I2 := Lib.hid i2
    have I3 := Lib.hid i3
    have H := Lib.hid (h.alloc (serO f st A n c))
    have HL := Lib.hid hlen
    have h3 : ¬ 10000 < (n : Int) := by omega
    clear h hf i1 i2 i3 hV hlen
    go_enter Try.func39, Try.ntmps39
    go_wp2_with fail
    refine (I1.out _).mono ?_
    rintro e w1 ⟨rfl, rfl⟩
    go_wp2_with fail
    refine (I3.out _).mono ?_
    rintro e w1 ⟨rfl, rfl⟩
    go_wp2_with fail
    refine (I2.out _).mono ?_
    rintro e w1 ⟨rfl, rfl⟩
    go_wp2
    go_loop [3] (fun i => ∃ k : Nat, k ≤ n ∧ i = .int .i64 k ∧ ∀ j, j < k → badD (el ds j) = false) (fun i => n - (intOf i).toNat)
    case atStart => exact ⟨0, Nat.zero_le _, rfl, fun j hj => absurd hj (by omega)⟩
    case round =>
      obtain ⟨k, hk, rfl, hno⟩ := hrel
      have HN := Lib.hid hno
      clear hno
      by_cases hlt : k < n
      · obtain ⟨ad, rfl, hl, hc⟩ := H.out.at_ hlt
        have HY : Hid (badD (el ds k) = true → V = false) := Lib.hid fun hb => by rw [← HV.out, any_at (by rw [HL.out]; exact hlt) hb]; rfl
        have HS : Hid (badD (el ds k) = false → ∀ j, j < k + 1 → badD (el ds j) = false) := Lib.hid fun hb j hj => by
          by_cases hjk : j = k
          · subst hjk; exact hb
          · exact HN.out j (by omega)
        generalize el ds k = y at *
        by_cases b0 : y < -1
        · have hv : V = false := HY.out (by unfold badD; rw [decide_eq_true b0]; rfl)
          subst hv
          go_wp2
          go_ret
          exact ⟨rfl, HB.out⟩
        by_cases b1 : 4194304 < y
        · have hv : V = false := HY.out (by unfold badD; rw [decide_eq_true b1, Bool.or_true])
          subst hv
          go_wp2
          go_ret
          exact ⟨rfl, HB.out⟩
        have HX := Lib.hid (HS.out (by unfold badD; rw [decide_eq_false b0, decide_eq_false b1]; rfl))
        go_wp2
        go_round
        case rel => exact ⟨k + 1, by omega, by go_num, HX.out⟩
        case measure => simp [intOf]; try omega
      · obtain rfl : k = n := by omega
        have hv : V = true := by rw [← HV.out, any_take (fun j hj => HN.out j (by rw [HL.out] at hj; omega))]; rfl
        subst hv
        go_wp2
        go_ret
        exact ⟨rfl, HB.out⟩

set_option maxHeartbeats 1000000 in
set_option maxRecDepth 100000 in
/-- Same at two records that read the same: true. -/
theorem Same_ser {A A' : Option Addr} {n c n' c' : Nat} {ds : List Int} (f st : Int) (w : World) (h : Ints w A n c ds) (h' : Ints w A' n' c' ds) :
    Calls Try.prog 31 #[serA f st A n c, serA f st A' n' c'] w fun e w' => e = .returned (.bool true) ∧ Below w.heap.size w w' := by
  have hcap := h.cap
  have hmax := h.max
  have hcap' := h'.cap
  have hmax' := h'.max
  obtain rfl : n = n' := by rw [← h.len, ← h'.len]
  have hne : ((n : Int) != (n : Int)) = false := by simp
  have hf : ((f : Int) != f) = false := by simp
  have hs : ((st : Int) != st) = false := by simp
  have S := (SBox.made w f st A n c).alloc (serO f st A' n c')
  have S' := SBox.made (w.alloc (serO f st A n c)) f st A' n c'
  rw [World.size_alloc] at S'
  obtain ⟨s0, s1, s2, sl⟩ := S
  obtain ⟨t0, t1, t2, tl⟩ := S'
  have H := Lib.hid ((h.alloc (serO f st A n c)).alloc (serO f st A' n c'))
  have H' := Lib.hid ((h'.alloc (serO f st A n c)).alloc (serO f st A' n c'))
  have HB := Lib.hid (((Below.refl w.heap.size w).alloc (Nat.le_refl _) (serO f st A n c)).alloc (by simp) (serO f st A' n c'))
  clear h h'
  go_enter Try.func31, Try.ntmps31
  go_wp2
  go_loopw [5] (fun i wr => ∃ k : Nat, k ≤ n ∧ i = .int .i64 k ∧ ∃ d, wr = ((w.alloc (serO f st A n c)).alloc (serO f st A' n c')).drewN d) (fun i _ => n - (intOf i).toNat)
  case atStart => exact ⟨0, Nat.zero_le _, rfl, 0, rfl⟩
  case round =>
    obtain ⟨k, hk, rfl, d, rfl⟩ := hrel
    by_cases hlt : k < n
    · obtain ⟨ad, rfl, hl, hc⟩ := H.out.at_ hlt
      obtain ⟨ad', rfl, hl', hc'⟩ := H'.out.at_ hlt
      have e5 : (k : Int) < n := by omega
      have e6 : (0 : Int) ≤ k := by omega
      generalize el ds k = x at *
      have hx : ((x : Int) != x) = false := by simp
      go_wp2
      go_quiet (fail)
      go_wp2
      go_roundw
      case rel => exact ⟨k + 1, by omega, by go_num, _, rfl⟩
      case measure => simp [intOf]; try omega
    · obtain rfl : k = n := by omega
      go_wp2
      go_ret
      exact ⟨rfl, below_drewN HB.out _⟩
end Go.Proofs.Ytchnfahgmceohaa
