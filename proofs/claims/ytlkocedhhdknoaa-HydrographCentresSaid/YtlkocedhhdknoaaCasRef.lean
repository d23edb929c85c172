/- Cascade of the reference; Cascade of both at any arguments. -/
import Derived.Test.YtlkocedhhdknoaaCas
import Derived.RegionTactic
import Derived.IntWalk
namespace Go.Proofs.Ytlkocedhhdknoaa
open Go.RowKit
set_option linter.unusedVariables false

/-- What the reference's reservoirs hold within a step: the last cell takes what leaves. -/
def midR (k : Int) (H : Nat → Int) (N i j : Nat) : Int := if j = N then (if i = N then 0 else H (N - 1) / k) else midF k H i j
theorem midR_low {k : Int} {H : Nat → Int} {N i j : Nat} (h : j < N) : midR k H N i j = midF k H i j := if_neg (by omega)
theorem midR_start (k : Int) (H : Nat → Int) (N : Nat) : ∀ j, j < N + 1 → (if j = N then 0 else H j) = midR k H N N j := fun j hj => by
  unfold midR
  by_cases h : j = N
  · rw [if_pos h, if_pos h, if_pos rfl]
  · rw [if_neg h, if_neg h]; exact mid_top k H N j (by omega)
theorem midR_top (k : Int) (H : Nat → Int) (p : Nat) : ∀ j, j < p + 1 + 1 → (if j = p + 1 then 0 + H p / k else if j = p then H p - H p / k else midR k H (p + 1) (p + 1) j) = midR k H (p + 1) p j := fun j hj => by
  unfold midR
  by_cases h : j = p + 1
  · subst h; rw [if_pos rfl, if_pos rfl, if_neg (by omega)]; simp
  · rw [if_neg h, if_neg h, if_neg h]; exact mid_last k H p j (by omega)
theorem midR_mid (k : Int) (H : Nat → Int) (p N : Nat) (hp : p + 1 < N) : ∀ j, j < N + 1 → (if j = p + 1 then H (p + 1) - H (p + 1) / k + H p / k else if j = p then H p - H p / k else midR k H N (p + 1) j) = midR k H N p j := fun j hj => by
  unfold midR
  by_cases h : j = N
  · subst h; rw [if_neg (by omega), if_neg (by omega), if_pos rfl, if_pos rfl, if_neg (by omega), if_neg (by omega)]
  · rw [if_neg h, if_neg h]; exact mid_mid k H p N j (by omega)
theorem midR_done (k : Int) (H : Nat → Int) (N : Nat) : ∀ j, j < N + 1 → (if j = N then 0 else midR k H N 0 j) = if j = N then 0 else hs k H j := fun j hj => by
  by_cases h : j = N
  · rw [if_pos h, if_pos h]
  · rw [if_neg h, if_neg h, midR_low (by omega), midF_done]
theorem start0 (N : Nat) (hN : 1 ≤ N) : ∀ j, j < N + 1 → (if j = 0 then 1073741824 else 0) = if j = N then 0 else H0 j := fun j hj => by
  unfold H0
  by_cases h : j = N
  · subst h; rw [if_pos rfl, if_neg (by omega)]
  · rw [if_neg h]

set_option maxHeartbeats 4000000 in
set_option maxRecDepth 100000 in
theorem Cascade_inR (N S : Nat) (k : Int) (hN0 : 1 ≤ N) (hN : N ≤ 10) (hk0 : 1 ≤ k) (hk : k ≤ 1000) (hS0 : 1 ≤ S) (hS : S ≤ 1000) (w : World) :
    Calls Try.prog 16 #[.int .i64 N, .int .i64 k, .int .i64 S] w (RetL (casL k (N - 1) (S - 1)) 0 w) := by
  have hmk := make_ints (N + 1) (by omega)
  simp only [Int.natCast_add, Int.cast_ofNat_Int] at hmk
  have R1 := ((Row.made w (N + 1)).set 0 1073741824).congr (G := fun j => if j = N then 0 else Hs k 0 j) (fun j hj => by exact start0 N hN0 j hj)
  rw [World.setCell_alloc_at _ _ _ _ _ rfl] at R1
  have HR := Lib.hid R1
  have n1 : ¬ (N : Int) < 1 := by omega
  have n2 : ¬ (10 : Int) < N := by omega
  have n3 : ¬ k < 1 := by omega
  have n4 : ¬ 1000 < k := by omega
  have n5 : ¬ (S : Int) < 1 := by omega
  have n6 : ¬ (1000 : Int) < S := by omega
  have c0 := (Row.made w (N + 1)).cell 0 (by omega)
  have f0 := (Row.made w (N + 1)).free 0
  clear R1
  go_enter Try.func16, Try.ntmps16
  go_wp2
  go_loopw [9, 10] (fun v i wr => ∃ s : Nat, s ≤ S ∧ i = .int .i64 s ∧ Own wr (w.heap.size + 1) v (fl s (outF k (N - 1))) ∧ Row wr w.heap.size (N + 1) (fun j => if j = N then 0 else Hs k s j) ∧ Below w.heap.size w wr) (fun _ i _ => S - (intOf i).toNat)
  case atStart => exact ⟨0, Nat.zero_le _, rfl, Own.nil _ _, HR.out, (Below.refl _ _).alloc (Nat.le_refl _) _⟩
  case round =>
    obtain ⟨s, hs, rfl, hown, hrow, hbe⟩ := hrel
    obtain ⟨wo, rfl⟩ : ∃ wo : World, wo = wr := ⟨_, rfl⟩
    have HO := Lib.hid hown
    have HB := Lib.hid hbe
    have HW := Lib.hid hrow
    clear hown hbe hrow c0 f0 hmk
    by_cases hlt : s < S
    · go_wp2
      go_loopw [11] (fun x wr => ∃ (i : Nat) (y : Int), Hid (y = i - 1) ∧ i ≤ N ∧ -1 ≤ y ∧ y ≤ N - 1 ∧ x = .int .i64 y ∧ Row wr w.heap.size (N + 1) (midR k (Hs k s) N i) ∧ Own wr (w.heap.size + 1) u9 (fl s (outF k (N - 1))) ∧ Below w.heap.size w wr) (fun x _ => ((intOf x) + 1).toNat)
      case atStart => exact ⟨N, N - 1, by rfl, Nat.le_refl _, by omega, by omega, rfl, HW.out.congr (midR_start _ _ _), HO.out, HB.out⟩
      case round =>
        obtain ⟨i, y, hy, hi, hy0, hy1, rfl, hrow2, hown2, hbe2⟩ := hrel
        have HO2 := Lib.hid hown2
        have HB2 := Lib.hid hbe2
        by_cases hge : 0 ≤ y
        · obtain ⟨p, rfl⟩ : ∃ p : Nat, y = p := ⟨y.toNat, by omega⟩
          obtain rfl : i = p + 1 := by have := hy.out; omega
          have cp := hrow2.cell p (by omega)
          rw [midR_low (by omega), mid_self] at cp
          have fp := hrow2.free p
          have fp1 := hrow2.free (p + 1)
          have b1 := Hs_nonneg hk0 s p
          have b2 := Hs_le hk0 s p
          obtain ⟨b3, b4⟩ := div_bd b1 hk0
          by_cases htop : p + 1 = N
          · subst htop
            have cn := hrow2.cell (p + 1) (by omega)
            rw [show midR k (Hs k s) (p + 1) (p + 1) (p + 1) = 0 from by unfold midR; rw [if_pos rfl, if_pos rfl]] at cn
            have HF := Lib.hid ((((hrow2.set p (Hs k s p - Hs k s p / k)).set (p + 1) (0 + Hs k s p / k)).congr (G := midR k (Hs k s) (p + 1) p) (fun j hj => midR_top k (Hs k s) p j hj)))
            rw [Int.zero_add] at HF
            clear hrow2 hown2 hbe2
            generalize Hs k s p = a at *
            go_wp2
            go_roundw
            case rel => exact ⟨p, p - 1, rfl, by omega, by omega, by omega, rfl, HF.out, (HO2.out.setCell (by simp) _).setCell (by simp) _, (HB2.out.setCell (by simp) _).setCell (by simp) _⟩
            case measure => simp [intOf]; try omega
          · have cn := hrow2.cell (p + 1) (by omega)
            rw [midR_low (by omega), mid_next] at cn
            have b5 := Hs_nonneg hk0 s (p + 1)
            have b6 := Hs_le hk0 s (p + 1)
            obtain ⟨b7, b8⟩ := div_bd b5 hk0
            have HF := Lib.hid ((((hrow2.set p (Hs k s p - Hs k s p / k)).set (p + 1) (Hs k s (p + 1) - Hs k s (p + 1) / k + Hs k s p / k)).congr (G := midR k (Hs k s) N p) (fun j hj => midR_mid k (Hs k s) p N (by omega) j hj)))
            clear hrow2 hown2 hbe2 htop
            generalize Hs k s p = a at *
            generalize hb : Hs k s (p + 1) - Hs k s (p + 1) / k = b at *
            have hb0 : 0 ≤ b := by omega
            have hb1 : b ≤ 1073741824 := by omega
            clear hb b5 b6 b7 b8
            go_wp2
            go_roundw
            case rel => exact ⟨p, p - 1, rfl, by omega, by omega, by omega, rfl, HF.out, (HO2.out.setCell (by simp) _).setCell (by simp) _, (HB2.out.setCell (by simp) _).setCell (by simp) _⟩
            case measure => simp [intOf]; try omega
        · obtain rfl : i = 0 := by have := hy.out; omega
          have cN := hrow2.cell N (by omega)
          rw [show midR k (Hs k s) N 0 N = outF k (N - 1) s from by unfold midR outF; rw [if_pos rfl, if_neg (by omega)]] at cN
          have fN := hrow2.free N
          have HR3 := Lib.hid hrow2
          have hob := outF_bd hk0 (N - 1) s
          clear hrow2 hown2 hbe2
          go_wp2_with (at_builtin; refine wpList_append_int _ (w.heap.size + 1) _ (fl s (outF k (N - 1))) (outF k (N - 1) s) rfl _ _ rfl rfl rfl HO2.out (Nat.lt_of_lt_of_le HR3.out.lt (Nat.le_refl _)) (by rw [fl_length]; omega) (by omega) ?_)
          intro v' w1 ho hb
          rw [← fl_succ] at ho
          have hr4 := HR3.out.below hb (Nat.lt_succ_self _)
          have c1 := hr4.cell N (by omega)
          have f1 := hr4.free N
          have HO3 := Lib.hid (ho.setCell (p := ⟨w.heap.size, N, none⟩) (by simp) (.int .i64 0))
          have HR4 := Lib.hid ((hr4.set N 0).congr (midR_done k (Hs k s) N))
          have HB3 := Lib.hid ((HB2.out.trans (hb.mono (Nat.le_succ _))).setCell (p := ⟨w.heap.size, N, none⟩) (by simp) (.int .i64 0))
          clear ho hb hr4 cN fN
          go_wp2
          go_roundw
          case rel => exact ⟨s + 1, by omega, by go_num, HO3.out, HR4.out, HB3.out⟩
          case measure => simp [intOf]; try omega
    · obtain rfl : s = S := by omega
      obtain ⟨g, c, rfl, hgB, hnc, hcm, hrO⟩ := HO.out.asRowF (by omega)
      have HRO := Lib.hid hrO
      clear hrO
      go_wp2
      obtain ⟨t, ht⟩ : ∃ t, s - 1 = t := ⟨_, rfl⟩
      have HT := Lib.hid ht
      go_loopw [13] (fun x wr => ∃ j : Nat, j ≤ N ∧ x = .int .i64 j ∧ Row wr w.heap.size (N + 1) (fun j => if j = N then 0 else Hs k s j) ∧ Row wr g s (fun u => if u = s - 1 then outF k (N - 1) u + sumF (Hs k s) j else outF k (N - 1) u) ∧ Below w.heap.size w wr) (fun x _ => N - (intOf x).toNat)
      case atStart => exact ⟨0, Nat.zero_le _, rfl, HW.out, HRO.out.congr (fun t _ => by simp [sumF]), HB.out⟩
      case round =>
        obtain ⟨j, hj, rfl, hr1, hr2, hb2⟩ := hrel
        have H1 := Lib.hid hr1
        have H2 := Lib.hid hr2
        have H3 := Lib.hid hb2
        clear hr2 hb2
        by_cases hlt2 : j < N
        · have cj := hr1.cell j (by omega)
          rw [if_neg (by omega)] at cj
          have b1 := Hs_nonneg hk0 s j
          have b2 := Hs_le hk0 s j
          have co := H2.out.cell (s - 1) (by omega)
          rw [if_pos rfl, ht] at co
          have fo := H2.out.free (s - 1)
          rw [ht] at fo
          obtain ⟨b3, b4⟩ := outF_bd hk0 (N - 1) t
          have b5 := sumF_nonneg (F := Hs k s) (n := j) (fun i _ => Hs_nonneg hk0 s i)
          have b6 := Int.le_trans (sumF_mono (Hs_nonneg hk0 s) (show j ≤ N - 1 + 1 by omega)) (sum_Hs_le hk0 s (N - 1))
          have HF := Lib.hid ((H2.out.drew.set (s - 1) (outF k (N - 1) (s - 1) + sumF (Hs k s) j + Hs k s j)).congr (G := fun t => if t = s - 1 then outF k (N - 1) t + sumF (Hs k s) (j + 1) else outF k (N - 1) t) (fun t _ => cas_add k (Hs k s) N s j t))
          have HF1 := Lib.hid (hr1.drew.far (p := ⟨g, s - 1, none⟩) (by simp; omega) (.int .i64 (outF k (N - 1) (s - 1) + sumF (Hs k s) j + Hs k s j)))
          have HF2 := Lib.hid (H3.out.drew.setCell (p := ⟨g, s - 1, none⟩) (by simp; omega) (.int .i64 (outF k (N - 1) (s - 1) + sumF (Hs k s) j + Hs k s j)))
          rw [ht] at HF1 HF2
          rw [show (wr.drew.setCell ⟨g, s - 1, none⟩ (.int .i64 (outF k (N - 1) (s - 1) + sumF (Hs k s) j + Hs k s j))) = (wr.drew.setCell ⟨g, t, none⟩ (.int .i64 (outF k (N - 1) t + sumF (Hs k s) j + Hs k s j))) from by rw [ht]] at HF
          clear hr1
          have e1 : IntKind.i64.wrap ((s : Int) - 1) = (t : Int) := by rw [show (s : Int) - 1 = t by omega]; exact IntWalk.i64_in _ (by omega)
          have e3 : (0 : Int) ≤ t := by omega
          have e4 : (t : Int) < s := by omega
          have e5 : (0 : Int) ≤ j := by omega
          have e6 : (j : Int) < (N : Int) + 1 := by omega
          generalize Hs k s j = a at *
          generalize outF k (N - 1) t = b at *
          generalize sumF (Hs k s) j = d at *
          have e2 : IntKind.i64.wrap (b + d + a) = b + d + a := IntWalk.i64_in _ (by omega)
          clear ht
          go_wp2
          go_region
          clear e1 e2
          go_wp2
          go_roundw
          case rel => exact ⟨j + 1, by omega, by go_num, HF1.out, HF.out, HF2.out⟩
          case measure => simp [intOf]; try omega
        · obtain rfl : j = N := by omega
          have HI := Lib.hid (H2.out.ints hnc hcm (by omega) (fun t _ => cas_rng hk0 j s t))
          clear hr1
          go_wp2
          go_returns
          exact ⟨_, _, _, rfl, cas_end k hS0 hN0 ▸ HI.out, H3.out, fun ad e => by injection e with e; subst e; exact Nat.le_of_succ_le hgB⟩

set_option maxHeartbeats 1000000 in
theorem Cascade_calls (n k t : Int) (w : World) :
    Calls Try.prog 15 #[.int .i64 n, .int .i64 k, .int .i64 t] w (RetL (CasV n k t).1 (CasV n k t).2 w) := by
  obtain ⟨V, hV⟩ : ∃ V, CasV n k t = V := ⟨_, rfl⟩
  rw [hV]
  unfold CasV at hV
  by_cases hok : casOk n k t
  · rw [if_pos hok] at hV
    obtain ⟨h1, h2, h3, h4, h5, h6⟩ := hok
    obtain ⟨N, rfl⟩ : ∃ N : Nat, n = N := ⟨n.toNat, by omega⟩
    obtain ⟨S, rfl⟩ : ∃ S : Nat, t = S := ⟨t.toNat, by omega⟩
    rw [← hV, show ((N : Int) - 1).toNat = N - 1 by omega, show ((S : Int) - 1).toNat = S - 1 by omega]
    exact Cascade_in N S k (by omega) (by omega) h3 h4 (by omega) (by omega) w
  · rw [if_neg hok] at hV
    have HV := Lib.hid hV
    clear hV
    unfold casOk at hok
    by_cases n0 : n < 1
    · clear hok
      go_enter Try.func15, Try.ntmps15
      go_wp2
      go_returns
      rw [← HV.out]
      exact RetL.none_ (Below.refl _ _)
    · skip
      by_cases n1 : 10 < n
      · clear hok
        go_enter Try.func15, Try.ntmps15
        go_wp2
        go_returns
        rw [← HV.out]
        exact RetL.none_ (Below.refl _ _)
      · skip
        by_cases n2 : k < 1
        · clear hok
          go_enter Try.func15, Try.ntmps15
          go_wp2
          go_returns
          rw [← HV.out]
          exact RetL.none_ (Below.refl _ _)
        · skip
          by_cases n3 : 1000 < k
          · clear hok
            go_enter Try.func15, Try.ntmps15
            go_wp2
            go_returns
            rw [← HV.out]
            exact RetL.none_ (Below.refl _ _)
          · skip
            by_cases n4 : t < 1
            · clear hok
              go_enter Try.func15, Try.ntmps15
              go_wp2
              go_returns
              rw [← HV.out]
              exact RetL.none_ (Below.refl _ _)
            · skip
              have n5 : 1000 < t := by omega
              clear hok
              go_enter Try.func15, Try.ntmps15
              go_wp2
              go_returns
              rw [← HV.out]
              exact RetL.none_ (Below.refl _ _)

set_option maxHeartbeats 1000000 in
theorem Cascade_ref (n k t : Int) (w : World) :
    Calls Try.prog 16 #[.int .i64 n, .int .i64 k, .int .i64 t] w (RetL (CasV n k t).1 (CasV n k t).2 w) := by
  obtain ⟨V, hV⟩ : ∃ V, CasV n k t = V := ⟨_, rfl⟩
  rw [hV]
  unfold CasV at hV
  by_cases hok : casOk n k t
  · rw [if_pos hok] at hV
    obtain ⟨h1, h2, h3, h4, h5, h6⟩ := hok
    obtain ⟨N, rfl⟩ : ∃ N : Nat, n = N := ⟨n.toNat, by omega⟩
    obtain ⟨S, rfl⟩ : ∃ S : Nat, t = S := ⟨t.toNat, by omega⟩
    rw [← hV, show ((N : Int) - 1).toNat = N - 1 by omega, show ((S : Int) - 1).toNat = S - 1 by omega]
    exact Cascade_inR N S k (by omega) (by omega) h3 h4 (by omega) (by omega) w
  · rw [if_neg hok] at hV
    have HV := Lib.hid hV
    clear hV
    unfold casOk at hok
    by_cases n0 : n < 1
    · clear hok
      go_enter Try.func16, Try.ntmps16
      go_wp2
      go_returns
      rw [← HV.out]
      exact RetL.none_ (Below.refl _ _)
    · skip
      by_cases n1 : 10 < n
      · clear hok
        go_enter Try.func16, Try.ntmps16
        go_wp2
        go_returns
        rw [← HV.out]
        exact RetL.none_ (Below.refl _ _)
      · skip
        by_cases n2 : k < 1
        · clear hok
          go_enter Try.func16, Try.ntmps16
          go_wp2
          go_returns
          rw [← HV.out]
          exact RetL.none_ (Below.refl _ _)
        · skip
          by_cases n3 : 1000 < k
          · clear hok
            go_enter Try.func16, Try.ntmps16
            go_wp2
            go_returns
            rw [← HV.out]
            exact RetL.none_ (Below.refl _ _)
          · skip
            by_cases n4 : t < 1
            · clear hok
              go_enter Try.func16, Try.ntmps16
              go_wp2
              go_returns
              rw [← HV.out]
              exact RetL.none_ (Below.refl _ _)
            · skip
              have n5 : 1000 < t := by omega
              clear hok
              go_enter Try.func16, Try.ntmps16
              go_wp2
              go_returns
              rw [← HV.out]
              exact RetL.none_ (Below.refl _ _)
end Go.Proofs.Ytlkocedhhdknoaa
