/- Cascade of the program and of the reference: for right arguments the weights of a cascade, else none and the error number. -/
import Derived.Test.YtlkocedhhdknoaaCasLaw
import Derived.Handy
namespace Go.Proofs.Ytlkocedhhdknoaa
open Go.RowKit
set_option linter.unusedVariables false

theorem mid_top (k : Int) (H : Nat → Int) (N : Nat) : ∀ j, j < N → H j = midF k H N j := fun j hj => by unfold midF; rw [if_pos hj]
theorem mid_self (k : Int) (H : Nat → Int) (p : Nat) : midF k H (p + 1) p = H p := by unfold midF; rw [if_pos (by omega)]
theorem mid_next (k : Int) (H : Nat → Int) (p : Nat) : midF k H (p + 1) (p + 1) = H (p + 1) - H (p + 1) / k := by unfold midF; rw [if_neg (by omega), if_pos rfl]
theorem mid_last (k : Int) (H : Nat → Int) (p : Nat) : ∀ j, j < p + 1 → (if j = p then H p - H p / k else midF k H (p + 1) j) = midF k H p j := fun j hj => by
  unfold midF
  by_cases h : j = p
  · subst h; rw [if_pos rfl, if_neg (by omega), if_pos rfl]
  · rw [if_neg h, if_pos (by omega), if_pos (by omega)]
theorem mid_mid (k : Int) (H : Nat → Int) (p N : Nat) : ∀ j, j < N → (if j = p + 1 then H (p + 1) - H (p + 1) / k + H p / k else if j = p then H p - H p / k else midF k H (p + 1) j) = midF k H p j := fun j _ => by
  unfold midF hs
  by_cases h : j = p + 1
  · subst h; rw [if_pos rfl, if_neg (by omega), if_neg (by omega), if_neg (by omega)]; simp
  · by_cases h2 : j = p
    · subst h2; rw [if_neg h, if_pos rfl, if_neg (by omega), if_pos rfl]
    · rw [if_neg h, if_neg h2]
      by_cases h3 : j < p
      · rw [if_pos (by omega), if_pos h3]
      · rw [if_neg (by omega), if_neg h, if_neg h3, if_neg h2]

theorem cas_top {p N : Nat} {H : Nat → Int} {k : Int} (h : p + 1 = N) (h2 : p + 1 ≤ N) : H p / k = if p = N then 0 else H (N - 1) / k := by
  rw [if_neg (by omega)]; congr 2; omega
theorem cas_mid {p N : Nat} {H : Nat → Int} {k : Int} (h : ¬ p + 1 = N) (h2 : p + 1 ≤ N) : (if p + 1 = N then 0 else H (N - 1) / k) = if p = N then 0 else H (N - 1) / k := by
  rw [if_neg h, if_neg (by omega)]

theorem cas_add (k : Int) (H : Nat → Int) (N s j t : Nat) : (if t = s - 1 then outF k (N - 1) (s - 1) + sumF H j + H j else if t = s - 1 then outF k (N - 1) t + sumF H j else outF k (N - 1) t) = if t = s - 1 then outF k (N - 1) t + sumF H (j + 1) else outF k (N - 1) t := by
  by_cases h : t = s - 1
  · subst h; rw [if_pos rfl, if_pos rfl, sumF]; omega
  · rw [if_neg h, if_neg h, if_neg h]
theorem cas_rng {k : Int} (hk : 1 ≤ k) (n s t : Nat) : -9223372036854775808 ≤ (if t = s - 1 then outF k (n - 1) t + sumF (Hs k s) n else outF k (n - 1) t) ∧ (if t = s - 1 then outF k (n - 1) t + sumF (Hs k s) n else outF k (n - 1) t) ≤ 9223372036854775807 := by
  have h1 := outF_bd hk (n - 1) t
  have h2 := sumF_nonneg (F := Hs k s) (n := n) (fun i _ => Hs_nonneg hk s i)
  have h3 := Int.le_trans (sumF_mono (Hs_nonneg hk s) (show n ≤ n - 1 + 1 by omega)) (sum_Hs_le hk s (n - 1))
  split <;> omega
theorem cas_end (k : Int) {s n : Nat} (hs : 1 ≤ s) (hn : 1 ≤ n) : fl s (fun t => if t = s - 1 then outF k (n - 1) t + sumF (Hs k s) n else outF k (n - 1) t) = casL k (n - 1) (s - 1) := by
  obtain ⟨s, rfl⟩ : ∃ q, s = q + 1 := ⟨s - 1, by omega⟩
  obtain ⟨n, rfl⟩ : ∃ q, n = q + 1 := ⟨n - 1, by omega⟩
  rfl

set_option maxHeartbeats 4000000 in
set_option maxRecDepth 100000 in
theorem Cascade_in (N S : Nat) (k : Int) (hN0 : 1 ≤ N) (hN : N ≤ 10) (hk0 : 1 ≤ k) (hk : k ≤ 1000) (hS0 : 1 ≤ S) (hS : S ≤ 1000) (w : World) :
    Calls Try.prog 15 #[.int .i64 N, .int .i64 k, .int .i64 S] w (RetL (casL k (N - 1) (S - 1)) 0 w) := by
  have hmk := make_ints N (by omega)
  have R1 := ((Row.made w N).set 0 1073741824).congr (G := Hs k 0) (fun j hj => by show _ = H0 j; unfold H0; rfl)
  rw [World.setCell_alloc_at _ _ _ _ _ rfl] at R1
  have HR := Lib.hid R1
  have n1 : ¬ (N : Int) < 1 := by omega
  have n2 : ¬ (10 : Int) < N := by omega
  have n3 : ¬ k < 1 := by omega
  have n4 : ¬ 1000 < k := by omega
  have n5 : ¬ (S : Int) < 1 := by omega
  have n6 : ¬ (1000 : Int) < S := by omega
  have c0 := (Row.made w N).cell 0 (by omega)
  have f0 := (Row.made w N).free 0
  clear R1
  go_enter Try.func15, Try.ntmps15
  go_wp2
  go_loopw [9, 42] (fun v i wr => ∃ s : Nat, s ≤ S ∧ i = .int .i64 s ∧ Own wr (w.heap.size + 1) v (fl s (outF k (N - 1))) ∧ Row wr w.heap.size N (Hs k s) ∧ Below w.heap.size w wr) (fun _ i _ => S - (intOf i).toNat)
  case atStart => exact ⟨0, Nat.zero_le _, rfl, Own.nil _ _, HR.out, (Below.refl _ _).alloc (Nat.le_refl _) _⟩
  case round =>
    obtain ⟨s, hs, rfl, hown, hrow, hbe⟩ := hrel
    obtain ⟨wo, rfl⟩ : ∃ wo : World, wo = wr := ⟨_, rfl⟩
    have HO := Lib.hid hown
    have HB := Lib.hid hbe
    have HW := Lib.hid hrow
    clear hown hbe hrow
    by_cases hlt : s < S
    · go_wp2
      go_loopw [10, 11] (fun q x wr => ∃ (i : Nat) (y : Int), Hid (y = i - 1) ∧ i ≤ N ∧ -1 ≤ y ∧ y ≤ N - 1 ∧ x = .int .i64 y ∧ q = .int .i64 (if i = N then 0 else Hs k s (N - 1) / k) ∧ Row wr w.heap.size N (midF k (Hs k s) i) ∧ Own wr (w.heap.size + 1) u9 (fl s (outF k (N - 1))) ∧ Below w.heap.size w wr) (fun _ x _ => ((intOf x) + 1).toNat)
      case atStart => exact ⟨N, N - 1, by rfl, Nat.le_refl _, by omega, by omega, rfl, by rw [if_pos rfl], HW.out.congr (mid_top _ _ _), HO.out, HB.out⟩
      case round =>
        obtain ⟨i, y, hy, hi, hy0, hy1, rfl, hqv, hrow2, hown2, hbe2⟩ := hrel
        clear c0 f0 hmk
        have HO2 := Lib.hid hown2
        have HB2 := Lib.hid hbe2
        by_cases hge : 0 ≤ y
        · obtain ⟨p, rfl⟩ : ∃ p : Nat, y = p := ⟨y.toNat, by omega⟩
          obtain rfl : i = p + 1 := by have := hy.out; omega
          have cp := hrow2.cell p (by omega)
          rw [mid_self] at cp
          have fp := hrow2.free p
          have fp1 := hrow2.free (p + 1)
          have HR2 := Lib.hid hrow2
          have b1 := Hs_nonneg hk0 s p
          have b2 := Hs_le hk0 s p
          obtain ⟨b3, b4⟩ := div_bd b1 hk0
          by_cases htop : p + 1 = N
          · subst hqv
            have HTV := Lib.hid (cas_top (H := Hs k s) (k := k) htop hi)
            have ht : ((p : Int) == N - 1) = true := by rw [beq_iff_eq]; omega
            have HT := Lib.hid htop
            have HF := Lib.hid (((hrow2.set p (Hs k s p - Hs k s p / k)).congr (G := midF k (Hs k s) p) (fun j hj => mid_last k (Hs k s) p j (by omega))))
            clear hrow2 hown2 hbe2
            generalize Hs k s p = a at *
            go_wp2
            go_roundw
            case rel => exact ⟨p, p - 1, rfl, by omega, by omega, by omega, rfl, ret_v HTV.out, HF.out, HO2.out.setCell (by simp) _, HB2.out.setCell (by simp) _⟩
            case measure => simp [intOf]; try omega
          · subst hqv
            have ht : ((p : Int) == N - 1) = false := by rw [beq_eq_false_iff_ne]; omega
            have cn := hrow2.cell (p + 1) (by omega)
            rw [mid_next] at cn
            have b5 := Hs_nonneg hk0 s (p + 1)
            have b6 := Hs_le hk0 s (p + 1)
            obtain ⟨b7, b8⟩ := div_bd b5 hk0
            have HT := Lib.hid htop
            have HF := Lib.hid ((((hrow2.set p (Hs k s p - Hs k s p / k)).set (p + 1) (Hs k s (p + 1) - Hs k s (p + 1) / k + Hs k s p / k)).congr (G := midF k (Hs k s) p) (fun j hj => mid_mid k (Hs k s) p N j hj)))
            clear hrow2 hown2 hbe2
            generalize Hs k s p = a at *
            generalize hb : Hs k s (p + 1) - Hs k s (p + 1) / k = b at *
            have hb0 : 0 ≤ b := by omega
            have hb1 : b ≤ 1073741824 := by omega
            clear hb b5 b6 b7 b8
            go_wp2
            go_roundw
            case rel => exact ⟨p, p - 1, rfl, by omega, by omega, by omega, rfl, ret_v (cas_mid HT.out (by omega)), HF.out, (HO2.out.setCell (by simp) _).setCell (by simp) _, (HB2.out.setCell (by simp) _).setCell (by simp) _⟩
            case measure => simp [intOf]; try omega
        · obtain rfl : i = 0 := by have := hy.out; omega
          rw [if_neg (by omega)] at hqv
          subst hqv
          have hR3 := hrow2.congr (G := Hs k (s + 1)) (fun j _ => midF_done k (Hs k s) j)
          have HR3 := Lib.hid hR3
          have hob := outF_bd hk0 (N - 1) s
          have HV : Hid (outF k (N - 1) s = Hs k s (N - 1) / k) := Lib.hid rfl
          clear hrow2 hR3 hown2 hbe2
          go_wp2_with (at_builtin; refine wpList_append_int _ (w.heap.size + 1) _ (fl s (outF k (N - 1))) (Hs k s (N - 1) / k) rfl _ _ rfl rfl rfl HO2.out (Nat.lt_of_lt_of_le HR3.out.lt (Nat.le_refl _)) (by rw [fl_length]; omega) (by rw [← HV.out]; omega) ?_)
          intro v' w1 ho hb
          rw [← HV.out, ← fl_succ] at ho
          have HO3 := Lib.hid ho
          have HR4 := Lib.hid (HR3.out.below hb (Nat.lt_succ_self _))
          have HB3 := Lib.hid (HB2.out.trans (hb.mono (Nat.le_succ _)))
          clear ho hb
          go_wp2
          go_roundw
          case rel => exact ⟨s + 1, by omega, by go_num, HO3.out, HR4.out, HB3.out⟩
          case measure => simp [intOf]; try omega
    · obtain rfl : s = S := by omega
      clear c0 f0 hmk
      obtain ⟨g, c, rfl, hgB, hnc, hcm, hrO⟩ := HO.out.asRowF (by omega)
      have HRO := Lib.hid hrO
      clear hrO
      go_wp2
      go_loopw [83] (fun x wr => ∃ j : Nat, j ≤ N ∧ x = .int .i64 j ∧ Row wr w.heap.size N (Hs k s) ∧ Row wr g s (fun t => if t = s - 1 then outF k (N - 1) t + sumF (Hs k s) j else outF k (N - 1) t) ∧ Below w.heap.size w wr) (fun x _ => N - (intOf x).toNat)
      case atStart => exact ⟨0, Nat.zero_le _, rfl, HW.out, HRO.out.congr (fun t _ => by simp [sumF]), HB.out⟩
      case round =>
        obtain ⟨j, hj, rfl, hr1, hr2, hb2⟩ := hrel
        have H1 := Lib.hid hr1
        have H2 := Lib.hid hr2
        have H3 := Lib.hid hb2
        clear hr2 hb2
        by_cases hlt2 : j < N
        · have cj := hr1.cell j hlt2
          have b1 := Hs_nonneg hk0 s j
          have b2 := Hs_le hk0 s j
          have co := H2.out.cell (s - 1) (by omega)
          rw [if_pos rfl] at co
          have fo := H2.out.free (s - 1)
          obtain ⟨b3, b4⟩ := outF_bd hk0 (N - 1) (s - 1)
          have b5 := sumF_nonneg (F := Hs k s) (n := j) (fun i _ => Hs_nonneg hk0 s i)
          have b6 := Int.le_trans (sumF_mono (Hs_nonneg hk0 s) (show j ≤ N - 1 + 1 by omega)) (sum_Hs_le hk0 s (N - 1))
          have HF := Lib.hid ((H2.out.set (s - 1) (outF k (N - 1) (s - 1) + sumF (Hs k s) j + Hs k s j)).congr (G := fun t => if t = s - 1 then outF k (N - 1) t + sumF (Hs k s) (j + 1) else outF k (N - 1) t) (fun t _ => cas_add k (Hs k s) N s j t))
          have HF1 := Lib.hid (hr1.far (p := ⟨g, s - 1, none⟩) (by simp; omega) (.int .i64 (outF k (N - 1) (s - 1) + sumF (Hs k s) j + Hs k s j)))
          clear hr1
          generalize Hs k s j = a at *
          generalize outF k (N - 1) (s - 1) = b at *
          generalize sumF (Hs k s) j = d at *
          go_wp2
          go_roundw
          case rel => exact ⟨j + 1, by omega, by go_num, HF1.out, HF.out, H3.out.setCell (by simp; omega) _⟩
          case measure => simp [intOf]; try omega
        · obtain rfl : j = N := by omega
          have HI := Lib.hid (H2.out.ints hnc hcm (by omega) (fun t _ => cas_rng hk0 j s t))
          clear hr1
          go_wp2
          go_returns
          exact ⟨_, _, _, rfl, cas_end k hS0 hN0 ▸ HI.out, H3.out, fun ad e => by injection e with e; subst e; exact Nat.le_of_succ_le hgB⟩
end Go.Proofs.Ytlkocedhhdknoaa
