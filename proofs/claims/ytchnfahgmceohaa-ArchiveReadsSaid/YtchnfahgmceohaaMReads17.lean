/- unfolded; the first byte that is below 128. -/
import Derived.Test.YtchnfahgmceohaaMReads15
import Derived.Test.YtchnfahgmceohaaMReads03
import Derived.Test.YtchnfahgmceohaaMReads08
import Derived.Laws.BitsLemmas

namespace Go.Proofs.Ytchnfahgmceohaa
open Go.RowKit
set_option linter.unusedVariables false

set_option maxHeartbeats 1000000 in
theorem unfolded_calls (n : Nat) (w : World) (h : (n : Int) ≤ 1152921504606846976) : Calls Try.prog 66 #[.int .i64 n] w fun e w' => e = .returned (.int .i64 (unfoldN n)) ∧ w' = w := by
  unfold unfoldN
  by_cases h1 : n % 2 = 1
  · rw [if_pos h1]
    obtain ⟨q, hq⟩ : ∃ q : Nat, n = 2 * q + 1 := ⟨n / 2, by omega⟩
    have e0 : (n : Int).tmod 2 = 1 := by rw [Int.tmod_eq_emod_of_nonneg (by omega)]; omega
    have e1 : ((n : Int) + 1) = ((2 * q + 2 : Nat) : Int) := by omega
    obtain ⟨m, hm⟩ : ∃ m : Nat, 2 * q + 2 = m := ⟨_, rfl⟩
    rw [hm] at e1
    have e2 : (-(m : Int)).tdiv 2 = -(((n + 1) / 2 : Nat) : Int) := by rw [Int.neg_tdiv, Int.tdiv_eq_ediv_of_nonneg (by omega)]; omega
    have e3 : -1152921504606846980 ≤ -(((n + 1) / 2 : Nat) : Int) ∧ -(((n + 1) / 2 : Nat) : Int) ≤ 0 := by omega
    generalize -(((n + 1) / 2 : Nat) : Int) = R at *
    obtain ⟨e4, e5⟩ := e3
    clear hq hm
    go_enter Try.func66, Try.ntmps66
    go_wp2
    go_ret
    exact ⟨rfl, rfl⟩
  · rw [if_neg h1]
    have e0 : (n : Int).tmod 2 = 0 := by rw [Int.tmod_eq_emod_of_nonneg (by omega)]; omega
    have e2 : (n : Int).tdiv 2 = ((n / 2 : Nat) : Int) := by rw [Int.tdiv_eq_ediv_of_nonneg (by omega)]; omega
    have e3 : 0 ≤ ((n / 2 : Nat) : Int) ∧ ((n / 2 : Nat) : Int) ≤ 1152921504606846976 := by omega
    generalize ((n / 2 : Nat) : Int) = R at *
    obtain ⟨e4, e5⟩ := e3
    go_enter Try.func66, Try.ntmps66
    go_wp2
    go_ret
    exact ⟨rfl, rfl⟩

theorem number1_calls (b : Int) (w : World) (h0 : 0 ≤ b) (h1 : b ≤ 255) : Calls Try.prog 65 #[.int .u8 b] w fun e w' => e = .returned (.bool (decide (b < 128))) ∧ w' = w := by
  go_enter Try.func65, Try.ntmps65
  go_wp2
  go_ret
  exact ⟨rfl, rfl⟩

set_option maxRecDepth 100000 in
set_option maxHeartbeats 2000000 in
theorem indexFunc_bytes {A : Option Addr} {n c : Nat} {bs : List Int} (w : World) (h : Byts w A n c bs) :
    Calls Try.prog 64 #[.slice A n c, .func (.func 65) #[] #[]] w fun e w' => e = .returned (.int .i64 (if n ≤ frst bs then -1 else (frst bs : Int))) ∧ w' = w := by
  have hcap := h.cap
  have hmax := h.max
  have hfew := h.few
  have HL := Lib.hid h.len
  have H := Lib.hid h
  clear h
  obtain ⟨R, hR⟩ : ∃ R : Int, (if n ≤ frst bs then -1 else (frst bs : Int)) = R := ⟨_, rfl⟩
  have HR := Lib.hid hR
  rw [hR]
  clear hR
  go_enter Try.func64, Try.ntmps64
  go_wp2
  go_loopw [8] (fun i wr => ∃ k : Nat, k ≤ n ∧ i = .int .i64 k ∧ (∀ j, j < k → 128 ≤ el bs j) ∧ wr = w) (fun i _ => n - (intOf i).toNat)
  case atStart => exact ⟨0, Nat.zero_le _, rfl, fun j hj => absurd hj (by omega), rfl⟩
  case round =>
    obtain ⟨k, hk, rfl, hno, rfl⟩ := hrel
    have HN := Lib.hid hno
    clear hno
    by_cases hlt : k < n
    · obtain ⟨ad, rfl, hl, hc⟩ := H.out.at_ hlt
      obtain ⟨z0, z1⟩ := H.out.rngD k
      have cl := number1_calls (el bs k) wr z0 z1
      by_cases hz : el bs k < 128
      · have HF : Hid (R = (k : Int)) := Lib.hid (by rw [← HR.out, frst_at (by rw [HL.out]; exact hlt) (fun j hj => by have := HN.out j hj; omega) hz, if_neg (by omega)])
        rw [decide_eq_true hz] at cl
        have CL := Lib.hid cl
        clear cl
        go_wp2_with fail
        refine (CL.out).mono ?_
        rintro e w1 ⟨rfl, rfl⟩
        go_wp2
        go_ret
        exact ⟨by rw [HF.out]; rfl, rfl⟩
      · have HX : Hid (∀ j, j < k + 1 → 128 ≤ el bs j) := Lib.hid fun j hj => by
          by_cases hjk : j = k
          · subst hjk; omega
          · exact HN.out j (by omega)
        rw [decide_eq_false hz] at cl
        have CL := Lib.hid cl
        clear cl
        go_wp2_with fail
        refine (CL.out).mono ?_
        rintro e w1 ⟨rfl, rfl⟩
        go_wp2
        go_roundw
        case rel => exact ⟨k + 1, by omega, by go_num, HX.out, by trivial⟩
        case measure => simp [intOf]; try omega
    · obtain rfl : k = n := by omega
      have HF : Hid (R = -1) := Lib.hid (by rw [← HR.out, frst_none (fun j hj => by have := HN.out j (by rw [HL.out] at hj; exact hj); omega), if_pos (by rw [HL.out]; exact Nat.le_refl _)])
      go_wp2
      go_ret
      exact ⟨by rw [HF.out]; rfl, rfl⟩
end Go.Proofs.Ytchnfahgmceohaa

/- reader.number. -/
namespace Go.Proofs.Ytchnfahgmceohaa
open Go.RowKit
set_option linter.unusedVariables false

theorem or7 (a b : Nat) (h : 128 * a < 9223372036854775808) (hb : b < 128) : bits .or .i64 ((128 * a : Nat) : Int) (b : Int) = ((128 * a + b : Nat) : Int) := by
  rw [bits_join .i64 63 (by decide) (fun n h0 h1 => by rw [IntKind.wrap_i64]; omega) 7 _ _ (by omega) (by omega) (by omega) (by omega) (by omega) (by omega)]
  omega
theorem and127 (z : Int) (h0 : 0 ≤ z) (h1 : z ≤ 255) : bits .and .u8 z 127 = ((z % 128).toNat : Int) := by
  have := bits_mask .u8 8 (by decide) wraps_u8 7 (by decide) z h0 (by omega)
  rw [show (127 : Int) = 2 ^ 7 - 1 by decide, this]
  omega
theorem valL_drop {L : List Int} {m : Nat} (h : m < L.length) : valL (L.drop m) = (el L m % 128).toNat + 128 * valL (L.drop (m + 1)) := by rw [drop_el h, valL]
theorem valL_drop_lt (L : List Int) (m : Nat) (h : L.length ≤ 9) (hm : 1 ≤ m) : valL (L.drop m) < 72057594037927936 := by
  refine Nat.lt_of_lt_of_le (valL_lt _) ?_
  rw [List.length_drop]
  exact Nat.le_trans (Nat.pow_le_pow_right (by decide) (show L.length - m ≤ 8 by omega)) (by decide)

/-- The reader at block p has bs before it, whose bytes lie below block g. -/
structure Rd (w : World) (p g : Nat) (bs : List Int) : Prop where
  r : ∃ A n c, Cel w p (.slice A n c) ∧ Byts w A n c bs ∧ ∀ ad, A = some ad → ad.block < g
def NumP (p g : Nat) (bs : List Int) (w : World) (e : Ending) (w' : World) : Prop :=
  e = .returned (.tuple #[.int .i64 ((getN bs).1 : Nat), .int .i64 (getN bs).2.1]) ∧ Rd w' p g (getN bs).2.2 ∧ w.grownBy w' (some p)

set_option maxRecDepth 100000 in
set_option maxHeartbeats 2000000 in
theorem number_calls (p g : Nat) (bs : List Int) (w : World) (h : Rd w p g bs) (hg : g ≤ p) :
    Calls Try.prog 45 #[.pointer (some ⟨p, 0, none⟩)] w (NumP p g bs w) := by
  have HR := Lib.hid h
  obtain ⟨A, n, c, ⟨cc, cf, cl⟩, hb, hA⟩ := h
  have hix := indexFunc_bytes w hb
  have hcap := hb.cap
  have hmax := hb.max
  have hfew := hb.few
  have hfl := frst_le bs
  have hlen := hb.len
  obtain ⟨V, hV⟩ : ∃ V, getN bs = V := ⟨_, rfl⟩
  unfold NumP
  have hgl := getN_lt bs
  rw [hV] at hgl ⊢
  by_cases hno : n ≤ frst bs
  · rw [if_pos hno] at hix
    have hv : V = (0, 8, bs) := by rw [← hV]; unfold getN; rw [if_pos (by omega)]
    subst hv
    have IX := Lib.hid hix
    clear hix hb hA hfl hlen hno hgl hV
    go_enter Try.func45, Try.ntmps45
    go_wp2_with fail
    refine (IX.out).mono ?_
    rintro e w1 ⟨rfl, rfl⟩
    go_wp2
    go_returns
    exact ⟨rfl, HR.out, ⟨rfl, rfl, rfl, Nat.le_refl _, fun _ _ _ => rfl⟩⟩
  · rw [if_neg hno] at hix
    obtain ⟨k, hk⟩ : ∃ k, frst bs = k := ⟨_, rfl⟩
    obtain ⟨ad, rfl, had, -⟩ := hb.at_ (show 0 < n by omega)
    have hag : ad.block < g := hA ad rfl
    have hap : ad.block ≠ p := by omega
    unfold getN at hV
    rw [if_neg (by omega), hk] at hV
    rw [hk] at hix hno
    have hdr := hb.drop (show k + 1 ≤ n by omega)
    obtain ⟨A', n', c', hcase⟩ : ∃ A' n' c', (c = k + 1 ∧ n = k + 1 ∧ A' = some ad ∧ n' = 0 ∧ c' = 0) ∨ (¬ c = k + 1 ∧ A' = some ⟨ad.block, ad.off + (k + 1), none⟩ ∧ n' = n - (k + 1) ∧ c' = c - (k + 1)) := by
      by_cases hck : c = k + 1
      · exact ⟨_, _, _, .inl ⟨hck, by omega, rfl, rfl, rfl⟩⟩
      · exact ⟨_, _, _, .inr ⟨hck, rfl, rfl, rfl⟩⟩
    have hA2 : ∀ a2, A' = some a2 → a2.block < g := by
      intro a2 e
      rcases hcase with ⟨_, _, h, _⟩ | ⟨_, h, _⟩
      · rw [h] at e; injection e with e; rw [← e]; exact hag
      · rw [h] at e; injection e with e; rw [← e]; exact hag
    have hdr' : Byts w A' n' c' (bs.drop (k + 1)) := by
      rcases hcase with ⟨h, hn, rfl, rfl, rfl⟩ | ⟨h, rfl, rfl, rfl⟩
      · rw [if_pos h, show c - (k + 1) = 0 by omega, show n - (k + 1) = 0 by omega] at hdr; exact hdr
      · rw [if_neg h] at hdr; exact hdr
    obtain ⟨W1, hW1⟩ : ∃ W1, w.setCell ⟨p, 0, none⟩ (.slice A' n' c') = W1 := ⟨_, rfl⟩
    have HW : Hid (Rd W1 p g (bs.drop (k + 1)) ∧ w.grownBy W1 (some p)) :=
      Lib.hid (by rw [← hW1]; exact ⟨⟨A', n', c', (Cel.mk cc cf cl).set_slice, hdr'.far (p := ⟨p, 0, none⟩) (fun a2 e => by have h1 := hA2 a2 e; show a2.block ≠ p; omega) _, hA2⟩, ⟨rfl, rfl, rfl, by simp [World.setCell], fun i hi hne => Below.heap_setCell w ⟨p, 0, none⟩ _ i (by intro e; exact hne (by rw [e]))⟩⟩)
    have hb1 := hb.far (p := ⟨p, 0, none⟩) (u := .slice A' n' c') (by intro a e; injection e with e; rw [← e]; exact hap)
    rw [hW1] at hb1
    have HW1 := Lib.hid hW1
    clear hW1
    have HC : ∀ j, j < n → W1.cell? (ad.add j) = some (.int .u8 (el bs j)) := fun j hj => by
      obtain ⟨a2, e, _, hc⟩ := hb1.at_ hj
      injection e with e
      subst e
      exact hc
    have hk0 := HC k (by omega)
    have HC' := Lib.hid HC
    have IX := Lib.hid hix
    have HB := Lib.hid hb
    obtain ⟨z0, z1⟩ := hb.rngD k
    clear hix hb hb1 hdr hdr' hA2 HC hA
    by_cases h8 : 8 < (k : Int)
    · have hv : V = (0, 7, bs.drop (k + 1)) := by rw [← hV, if_pos (.inl (by omega))]
      subst hv
      clear hV hgl
      rcases hcase with ⟨rfl, rfl, rfl, rfl, rfl⟩ | ⟨hck, rfl, rfl, rfl⟩ <;> (
        go_enter Try.func45, Try.ntmps45
        go_wp2_with fail
        refine (IX.out).mono ?_
        rintro e w1 ⟨rfl, rfl⟩
        go_wp2
        go_returns
        rw [HW1.out]
        exact ⟨rfl, HW.out⟩)
    · by_cases hz : 0 < k ∧ el bs k = 0
      · have hv : V = (0, 7, bs.drop (k + 1)) := by rw [← hV, if_pos (.inr hz)]
        subst hv
        obtain ⟨hz1, hz2⟩ := hz
        rw [hz2] at hk0
        have hk1 : (0 : Int) < k := by omega
        clear hV hgl
        rcases hcase with ⟨rfl, rfl, rfl, rfl, rfl⟩ | ⟨hck, rfl, rfl, rfl⟩ <;> (
          go_enter Try.func45, Try.ntmps45
          go_wp2_with fail
          refine (IX.out).mono ?_
          rintro e w1 ⟨rfl, rfl⟩
          rw [← HW1.out] at hk0
          go_wp2
          go_returns
          rw [HW1.out]
          exact ⟨rfl, HW.out⟩)
      · rw [if_neg (by intro h; rcases h with h | h; omega; exact hz h)] at hV
        have hkl : (bs.take (k + 1)).length = k + 1 := by rw [List.length_take]; omega
        have HVL : Hid (∀ m, m ≤ k → valL ((bs.take (k + 1)).drop m) = (el bs m % 128).toNat + 128 * valL ((bs.take (k + 1)).drop (m + 1))) := Lib.hid fun m hm => by
          rw [valL_drop (by omega)]
          congr 3
          unfold el
          rw [List.getD_eq_getElem?_getD, List.getD_eq_getElem?_getD, List.getElem?_take, if_pos (by omega)]
        have HVB : Hid (∀ m, 1 ≤ m → valL ((bs.take (k + 1)).drop m) < 72057594037927936) := Lib.hid fun m hm => valL_drop_lt _ _ (by omega) hm
        have HV1 : Hid (valL ((bs.take (k + 1)).drop (k + 1)) = 0) := Lib.hid (by rw [List.drop_of_length_le (by omega)]; rfl)
        have HV2 : Hid (valL ((bs.take (k + 1)).drop 0) = valL (bs.take (k + 1))) := Lib.hid rfl
        have HRG : Hid (∀ m, 0 ≤ el bs m ∧ el bs m ≤ 255) := Lib.hid fun m => HB.out.rngD m
        generalize hF : (fun m => valL ((bs.take (k + 1)).drop m)) = F at *
        have hFm : ∀ m, valL ((bs.take (k + 1)).drop m) = F m := fun m => by rw [← hF]
        simp only [hFm] at HVL HVB HV1 HV2
        rw [← HV2.out] at hV
        have HVV := Lib.hid hV
        clear hV hgl hF hFm HV2 hkl
        have hzz : (0 : Int) < k → ((el bs k : Int) == 0) = false := fun h => by
          have : ¬ el bs k = 0 := fun h2 => hz ⟨by omega, h2⟩
          simp [this]
        rcases hcase with ⟨rfl, rfl, rfl, rfl, rfl⟩ | ⟨hck, rfl, rfl, rfl⟩ <;> (
          by_cases hk1 : (0 : Int) < k <;> (
            go_enter Try.func45, Try.ntmps45
            go_wp2_with fail
            refine (IX.out).mono ?_
            rintro e w1 ⟨rfl, rfl⟩
            rw [← HW1.out] at hk0
            try (have hz2 := hzz hk1)
            clear hzz
            go_wp2
            go_loopw [6, 7] (fun x i wr => ∃ m : Nat, m ≤ k + 1 ∧ x = .int .i64 (F m : Nat) ∧ i = .int .i64 ((m : Int) - 1) ∧ wr = W1) (fun _ i _ => (intOf i + 1).toNat)
            case atStart => exact ⟨k + 1, Nat.le_refl _, by rw [HV1.out]; rfl, by go_num, HW1.out⟩
            case round =>
              obtain ⟨m, hm, rfl, rfl, rfl⟩ := hrel
              clear hk0
              by_cases hm0 : 0 < m
              · obtain ⟨j, rfl⟩ : ∃ j, m = j + 1 := ⟨m - 1, by omega⟩
                have hc := HC'.out j (by omega)
                obtain ⟨d0, d1⟩ := HRG.out j
                have ha := and127 _ d0 d1
                have hvl := HVL.out j (by omega)
                have hvb := HVB.out (j + 1) (by omega)
                generalize F (j + 1) = X at *
                generalize el bs j = d at *
                obtain ⟨y, hy⟩ : ∃ y : Nat, (d % 128).toNat = y := ⟨_, rfl⟩
                have hyl : y < 128 := by omega
                rw [hy] at ha hvl
                have ho := or7 X y (by omega) hyl
                obtain ⟨Z, hZ⟩ : ∃ Z, 128 * X = Z := ⟨_, rfl⟩
                rw [hZ] at ho
                have e2 : (X : Int) * 128 = (Z : Int) := by omega
                have e3 : (X : Int) * 2 ^ 7 = (Z : Int) := by omega
                obtain ⟨Y, hY⟩ : ∃ Y, Z + y = Y := ⟨_, rfl⟩
                rw [hY] at ho
                have e4 : ((j + 1 : Nat) : Int) - 1 = (j : Int) := by omega
                have HJ : Hid (F j = Y) := Lib.hid (by omega)
                have hZl : (Z : Int) < 9223372036854775808 := by omega
                rw [e4]
                clear hvl hZ hy hvb
                go_wp2
                go_roundw
                case rel => exact ⟨j, by omega, by rw [HJ.out]; try rfl, by go_num, by trivial⟩
                case measure => simp [intOf]; try omega
              · obtain rfl : m = 0 := by omega
                have e5 : ((0 : Nat) : Int) - 1 = -1 := rfl
                rw [e5]
                generalize F 0 = X at *
                by_cases hX : 1152921504606846975 < (X : Int)
                · have hv : V = (0, 7, bs.drop (k + 1)) := by rw [← HVV.out, if_pos (by omega)]
                  subst hv
                  clear HVV
                  go_wp2
                  go_returns
                  exact ⟨rfl, HW.out⟩
                · have hv : V = (X, 0, bs.drop (k + 1)) := by rw [← HVV.out, if_neg (by omega)]
                  subst hv
                  clear HVV
                  go_wp2
                  go_returns
                  exact ⟨rfl, HW.out⟩))
end Go.Proofs.Ytchnfahgmceohaa
