/- Get of the reference. -/
import Derived.Test.YtchnfahgmceohaaMReads24
import Derived.Test.YtchnfahgmceohaaMReads01
import Derived.Test.YtchnfahgmceohaaProg
import Derived.WalkKit
import Derived.Lib.Hide
import Derived.IntWalk
import Derived.Test.YtchnfahgmceohaaMReads00
import Derived.Handy

namespace Go.Proofs.Ytchnfahgmceohaa
open Go.RowKit
set_option linter.unusedVariables false

theorem pow128 (t : Nat) (h : t ≤ 8) : ((128 ^ t : Nat) : Int) ≤ 72057594037927936 := by
  have h1 : (128 : Nat) ^ t ≤ 128 ^ 8 := Nat.pow_le_pow_right (by decide) h
  have : (128 : Nat) ^ 8 = 72057594037927936 := by decide
  omega
def unitW (t : Nat) : Int := IntKind.i64.wrap ((128 ^ t : Nat) : Int)
theorem unitW_ok {t : Nat} (h : t ≤ 8) : unitW t = ((128 ^ t : Nat) : Int) := by
  have h1 := pow128 t h
  unfold unitW
  have h2 : (0 : Int) ≤ ((128 ^ t : Nat) : Int) := Int.natCast_nonneg _
  generalize ((128 ^ t : Nat) : Int) = P at *
  exact IntWalk.i64_in _ (by omega)
theorem unitW_next {t : Nat} : unitW (t + 1) = IntKind.i64.wrap (((128 ^ t : Nat) : Int) * 128) := by
  unfold unitW
  congr 1

set_option maxRecDepth 100000 in
set_option maxHeartbeats 2000000 in
theorem Get_ref {A : Option Addr} {n c : Nat} {bs : List Int} (i : Nat) (w : World) (h : Byts w A n c bs) (hi : i ≤ n) :
    Calls Try.prog 71 #[.slice A n c, .int .i64 i] w fun e w' => e = .returned (.tuple #[.int .i64 (getV bs i).1, .int .i64 (getV bs i).2.1, .int .i64 (getV bs i).2.2]) ∧ w = w' := by
  have hcap := h.cap
  have hmax := h.max
  have hfew := h.few
  have hlen := h.len
  have hSl : (bs.drop i).length = n - i := by rw [List.length_drop, hlen]
  have hS : ∀ j, el (bs.drop i) j = el bs (i + j) := fun j => el_dropR bs i j
  have hFl := frst_le (bs.drop i)
  have HGE : Hid (∀ k, k < frst (bs.drop i) → ¬ el bs (i + k) < 128) := Lib.hid fun k hk => by rw [← hS]; exact frst_ge hk
  have HLT : Hid (i + frst (bs.drop i) < n → el bs (i + frst (bs.drop i)) < 128) := Lib.hid fun hk => by rw [← hS]; exact frst_lt128 (by omega)
  have hr : ∀ j, 0 ≤ el (bs.drop i) j ∧ el (bs.drop i) j ≤ 255 := fun j => by rw [hS]; exact h.rngD _
  have HEND := Lib.hid (fun (hh : (bs.drop i).length ≤ frst (bs.drop i)) => getV_end hh)
  have HFORM := Lib.hid (fun (hl : frst (bs.drop i) < (bs.drop i).length) (hh) => getV_form hr hl hh)
  have HOK := Lib.hid (fun (hl : frst (bs.drop i) < (bs.drop i).length) (hh) => getV_ok hr (by omega) hl hh)
  have HVT := Lib.hid (fun t (hl : t < (bs.drop i).length) => valL_take hl)
  have HVL := Lib.hid (fun t => valL_take_lt (bs.drop i) t)
  generalize getV bs i = V at *
  rw [hS] at HFORM HOK
  rw [hSl] at HEND HFORM HOK HVT hFl
  simp only [hS] at HVT
  generalize frst (bs.drop i) = F at *
  have H := Lib.hid h
  have HV0 : Hid (valL ((bs.drop i).take 0) = 0) := Lib.hid rfl
  generalize hSS : (fun t => valL ((bs.drop i).take t)) = G at *
  have hGt : ∀ t, valL ((bs.drop i).take t) = G t := fun t => by rw [← hSS]
  simp only [hGt] at HVT HVL HV0 HOK
  clear h hlen hSl hS hr hSS hGt
  go_enter Try.func71, Try.ntmps71
  go_wp2
  go_loop [7] (fun k => ∃ t : Nat, t ≤ F ∧ k = .int .i64 ((i + t : Nat) : Int)) (fun k => n - (intOf k).toNat)
  case atStart => exact ⟨0, Nat.zero_le _, rfl⟩
  case round =>
    obtain ⟨t, ht, rfl⟩ := hrel
    by_cases hlt : t < F
    · have hge := HGE.out t hlt
      obtain ⟨K, hK⟩ : ∃ K, i + t = K := ⟨_, rfl⟩
      obtain ⟨ad, rfl, -, hcc⟩ := H.out.at_ (show i + t < n by omega)
      rw [hK] at hge hcc ⊢
      have hkn : (K : Int) < (n : Int) := by omega
      generalize el bs K = d at *
      go_wp2
      go_round
      case rel => exact ⟨t + 1, by omega, by rw [← hK]; go_num⟩
      case measure => simp [intOf]; omega
    · obtain rfl : t = F := by omega
      obtain ⟨K, hK⟩ : ∃ K, i + t = K := ⟨_, rfl⟩
      rw [hK]
      by_cases hkn : (K : Int) < (n : Int)
      · have hll := HLT.out (by omega)
        obtain ⟨ad, rfl, -, hcc⟩ := H.out.at_ (show i + t < n by omega)
        have hrg := H.out.rngD (i + t)
        rw [hK] at hll hcc hrg
        have HLT' : t < n - i := by omega
        obtain ⟨dk, hdk⟩ : ∃ d, el bs (i + t) = d := ⟨_, rfl⟩
        have hdk' := hdk
        rw [hK] at hdk'
        rw [hdk'] at hll hcc hrg
        have HDK := Lib.hid hdk
        clear hdk hdk' HLT HGE
        obtain ⟨hr0, hr1⟩ := hrg
        have e1 : (K : Int) - (i : Int) = (t : Int) := by omega
        by_cases hbad : 8 < t ∨ (t = 8 ∧ ¬ dk < 16) ∨ (0 < t ∧ dk = 0)
        · have hv := HFORM.out HLT' (by rw [HDK.out]; omega)
          subst hv
          have hbad2 : (8 : Int) < (t : Int) ∨ (¬ (8 : Int) < (t : Int) ∧ t = 8 ∧ ¬ dk < 16) ∨ (¬ (8 : Int) < (t : Int) ∧ t = 8 ∧ dk = 0) ∨ (¬ (8 : Int) < (t : Int) ∧ ¬ t = 8 ∧ 0 < t ∧ dk = 0) := by omega
          clear hbad
          rcases hbad2 with h1 | ⟨h1, h3, h2⟩ | ⟨h1, h3, rfl⟩ | ⟨h1, h2, h3, rfl⟩
          · go_wp2
            go_returns
            exact ⟨rfl, rfl⟩
          · have h8 : ((t : Int) == 8) = true := by simp; omega
            go_wp2
            go_returns
            exact ⟨rfl, rfl⟩
          · have h8 : ((t : Int) == 8) = true := by simp; omega
            have h6 : (i : Int) < (K : Int) := by omega
            go_wp2
            go_returns
            exact ⟨rfl, rfl⟩
          · have h6 : (i : Int) < (K : Int) := by omega
            have h8 : ((t : Int) == 8) = false := by simp; omega
            go_wp2
            go_returns
            exact ⟨rfl, rfl⟩
        · have hv := HOK.out HLT' (by rw [HDK.out]; omega)
          subst hv
          have g1 : ¬ (8 : Int) < (t : Int) := by omega
          have ht8 : t ≤ 8 := by omega
          have hc3 : (((t : Int) == 8) = false ∧ ¬ (i : Int) < (K : Int)) ∨ (((t : Int) == 8) = false ∧ (i : Int) < (K : Int) ∧ (dk == 0) = false) ∨ (((t : Int) == 8) = true ∧ dk < 16 ∧ (i : Int) < (K : Int) ∧ (dk == 0) = false) := by
            by_cases h8 : t = 8
            · refine .inr (.inr ⟨by simp [h8], by omega, by omega, by simp; omega⟩)
            · by_cases h0 : 0 < t
              · exact .inr (.inl ⟨by simp; omega, by omega, by simp; omega⟩)
              · exact .inl ⟨by simp; omega, by omega⟩
          have HK := Lib.hid hK
          clear hbad HEND HFORM HOK hlt hK hFl HLT'
          rcases hc3 with ⟨h1, h2⟩ | ⟨h1, h2, h3⟩ | ⟨h1, h2, h3, h4⟩ <;> (
            go_wp2
            go_loop [8, 9, 10] (fun x u j => ∃ s : Nat, s ≤ t + 1 ∧ x = .int .i64 ((G s : Nat) : Int) ∧ u = .int .i64 (unitW s) ∧ j = .int .i64 ((i + s : Nat) : Int)) (fun _ _ j => n - (intOf j).toNat)
            case atStart => exact ⟨0, Nat.zero_le _, by rw [HV0.out]; rfl, rfl, rfl⟩
            case round =>
              obtain ⟨s, hs, rfl, rfl, rfl⟩ := hrel
              by_cases hst : s ≤ t
              · have hp := pow128 s (by omega)
                have hvt := HVT.out s (by have := HK.out; omega)
                have hvl := HVL.out (s + 1)
                have hp9 : (128 : Nat) ^ (s + 1) ≤ 9223372036854775808 := by
                  have h9 : (128 : Nat) ^ (s + 1) ≤ 128 ^ 9 := Nat.pow_le_pow_right (by decide) (by omega)
                  have : (128 : Nat) ^ 9 = 9223372036854775808 := by decide
                  omega
                have hun := unitW_next (t := s)
                obtain ⟨ad', e', -, hdd⟩ := H.out.at_ (show i + s < n by have := HK.out; omega)
                injection e' with e'
                subst e'
                have hrg := H.out.rngD (i + s)
                rw [unitW_ok (show s ≤ 8 by omega)]
                obtain ⟨J, hJ⟩ : ∃ J, i + s = J := ⟨_, rfl⟩
                have HJ := Lib.hid hJ
                have hJK : (J : Int) ≤ (K : Int) := by have := HK.out; omega
                rw [hJ] at hdd hrg hvt ⊢
                obtain ⟨U, hU⟩ : ∃ U, unitW (s + 1) = U := ⟨_, rfl⟩
                have HU := Lib.hid hU
                rw [hU] at hun
                obtain ⟨Y, hY⟩ : ∃ Y, G (s + 1) = Y := ⟨_, rfl⟩
                have HY := Lib.hid hY
                rw [hY] at hvt hvl
                generalize (128 : Nat) ^ s = P at *
                generalize el bs J = d at *
                obtain ⟨y, hy⟩ : ∃ y : Nat, (d % 128).toNat = y := ⟨_, rfl⟩
                have hy2 : d % 128 = (y : Int) := by omega
                rw [hy] at hvt
                obtain ⟨Z, hZ⟩ : ∃ Z, P * y = Z := ⟨_, rfl⟩
                have hZ2 : (P : Int) * (y : Int) = (Z : Int) := by rw [← hZ]; simp
                rw [hZ] at hvt
                have hsum : ((G s : Nat) : Int) + (Z : Int) = (Y : Int) := by omega
                have hYb : (Y : Int) ≤ 9223372036854775807 := by omega
                have hZ0 : (Z : Int) ≤ (Y : Int) := by omega
                have hun2 : wrap64 ((P : Int) * 128) = U := by rw [← IntWalk.i64_left]; exact hun.symm
                have hun3 : IntKind.i64.wrap ((P : Int) * 128) = U := hun.symm
                generalize G s = g at *
                obtain ⟨hr2, hr3⟩ := hrg
                clear hun hvt hvl hp9 hJ hU hY hy hZ HVL HV0
                go_wp2
                go_round
                case rel => exact ⟨s + 1, by omega, by rw [HY.out], by rw [HU.out], by rw [← HJ.out]; go_num⟩
                case measure => simp [intOf]; omega
              · obtain rfl : s = t + 1 := by omega
                obtain ⟨J, hJ⟩ : ∃ J, i + (t + 1) = J := ⟨_, rfl⟩
                have hJK : (K : Int) < (J : Int) := by have := HK.out; omega
                have hKJ : (K : Int) + 1 = (J : Int) := by have := HK.out; omega
                have hJ2 : i + t + 1 = J := by omega
                have HJ2 := Lib.hid hJ2
                rw [hJ]
                clear hJ hJ2 hst hs
                generalize unitW (t + 1) = U at *
                go_wp2
                go_returns
                have eJ : (i : Int) + (t : Int) + 1 = (J : Int) := (by have := HJ2.out; omega)
                exact ⟨(by simp only [eJ]; rfl), rfl⟩)
      · have hv := HEND.out (by omega)
        subst hv
        go_wp2
        go_returns
        exact ⟨rfl, rfl⟩
end Go.Proofs.Ytchnfahgmceohaa

/- Unfolded, Unpacked of the reference. -/
namespace Go.Proofs.Ytchnfahgmceohaa
open Go.RowKit
set_option linter.unusedVariables false

theorem Unfolded_ref (n : Nat) (w : World) (h : (n : Int) ≤ 1152921504606846976) : Calls Try.prog 76 #[.int .i64 n] w fun e w' => e = .returned (.int .i64 (unfoldN n)) ∧ w = w' := by
  unfold unfoldN
  obtain ⟨q, hq⟩ : ∃ q : Nat, n / 2 = q := ⟨_, rfl⟩
  have e2 : (n : Int) / 2 = (q : Int) := by omega
  have e3 : (q : Int) ≤ 576460752303423488 := by omega
  by_cases h1 : n % 2 = 1
  · rw [if_pos h1]
    have e0 : (n : Int) % 2 = 1 := by omega
    have e5 : -(((n + 1) / 2 : Nat) : Int) = -(q : Int) - 1 := by omega
    rw [e5]
    clear hq h1 e5
    go_enter Try.func76, Try.ntmps76
    go_wp2
    go_ret
    exact ⟨ret_i (by omega), rfl⟩
  · rw [if_neg h1, hq]
    have e0 : (n : Int) % 2 = 0 := by omega
    clear hq h1
    go_enter Try.func76, Try.ntmps76
    go_wp2
    go_ret
    exact ⟨rfl, rfl⟩
/-- What Get reads, told by the bytes from the index on. -/
theorem getV_parts (bs : List Int) (i : Nat) (hi : i ≤ bs.length) : ∃ x j er, getN (bs.drop i) = (x, er, bs.drop j) ∧ j ≤ bs.length ∧ i ≤ j ∧ x ≤ 1152921504606846975 ∧ ((er = 0 ∧ getV bs i = ((x : Int), (j : Int), 0) ∧ i < j) ∨ (0 < er ∧ er ≤ 8 ∧ getV bs i = (0, 0, er))) := by
  have hl := getN_lt (bs.drop i)
  have he := getN_err (bs.drop i)
  obtain ⟨k, hk, hr⟩ := getN_rest (bs.drop i)
  have hll : (bs.drop i).length = bs.length - i := List.length_drop
  refine ⟨(getN (bs.drop i)).1, i + k, (getN (bs.drop i)).2.1, ?_, by omega, by omega, hl, ?_⟩
  · rw [List.drop_drop] at hr
    rw [← hr]
  · by_cases h0 : (getN (bs.drop i)).2.1 = 0
    · refine .inl ⟨h0, ?_, ?_⟩
      · unfold getV
        rw [if_pos h0, hr]
        simp only [List.length_drop]
        congr 2
        omega
      · have hne : ¬ k = 0 := by
          intro hk0
          subst hk0
          rw [List.drop_zero] at hr
          unfold getN at hr h0
          split at hr
          · rename_i hc; rw [if_pos hc] at h0; simp at h0
          · rename_i hc
            have : ((bs.drop i).drop (frst (bs.drop i) + 1)).length = (bs.drop i).length := by
              split at hr
              · exact congrArg List.length hr
              · split at hr
                · exact congrArg List.length hr
                · exact congrArg List.length hr
            rw [List.length_drop] at this
            omega
        omega
    · refine .inr ⟨by omega, by omega, ?_⟩
      unfold getV
      rw [if_neg h0]
def RetUR (U : Int × List Int × List Int) (L : Nat) (w : World) (e : Ending) (w' : World) : Prop :=
  ∃ A n c, ∃ out : List Int, ∃ x : Int, e = .returned (.tuple #[.slice A n c, .int .i64 x, .int .i64 U.1]) ∧ Ints w' A n c out ∧ Below w.heap.size w w' ∧ (∀ ad, A = some ad → w.heap.size ≤ ad.block) ∧ (U.1 = 0 → out = U.2.1 ∧ x = (L : Int) - U.2.2.length)
theorem RetUR.none_ {U : Int × List Int × List Int} {L : Nat} {w w' : World} {x : Int} (h : ¬ U.1 = 0) (hb : Below w.heap.size w w') : RetUR U L w (.returned (.tuple #[.slice none 0 0, .int .i64 x, .int .i64 U.1])) w' := ⟨none, 0, 0, [], x, rfl, Ints.nil _, hb, (fun ad e => by cases e), fun e => absurd e h⟩

set_option maxRecDepth 100000 in
set_option maxHeartbeats 4000000 in
theorem Unpacked_ref {A : Option Addr} {L c : Nat} {bs : List Int} (i n : Nat) (w : World) (h : Byts w A L c bs) (hi : i ≤ L) (hn : n ≤ 10000) :
    Calls Try.prog 75 #[.slice A L c, .int .i64 i, .int .i64 n] w (RetUR (unpGo n n 0 false (bs.drop i) []) L w) := by
  have hcap := h.cap
  have hmax := h.max
  have hfew := h.few
  have hlen := h.len
  obtain ⟨U, hU⟩ : ∃ U, unpGo n n 0 false (bs.drop i) [] = U := ⟨_, rfl⟩
  rw [hU]
  have HU0 := Lib.hid hU
  have GR := Lib.hid (fun j (hj : j ≤ L) W (I : Byts W A L c bs) => Get_ref j W I hj)
  have GP := Lib.hid (fun j (hj : j ≤ bs.length) => getV_parts bs j hj)
  have H := Lib.hid h
  have HLn := Lib.hid hlen
  clear h hU hlen
  go_enter Try.func75, Try.ntmps75
  go_wp2
  go_loopw [1, 9, 10, 11] (fun vi vo vl vz wr => ∃ (i' m fu : Nat) (v : Int) (st : Bool) (o : List Int), vi = .int .i64 i' ∧ vl = .int .i64 v ∧ vz = .bool st ∧ i' ≤ L ∧ m ≤ fu ∧ Hid (unpGo fu m v st (bs.drop i') o = U) ∧ (-1099511627776 ≤ v ∧ v ≤ 1099511627776) ∧ Hid (o.length + m = n) ∧ Own wr w.heap.size vo o ∧ Below w.heap.size w wr) (fun vi _ _ _ _ => L + 1 - (intOf vi).toNat)
  case atStart => exact ⟨i, n, n, 0, false, [], rfl, rfl, rfl, hi, Nat.le_refl _, HU0, by omega, Lib.hid (by simp), Own.nil _ _, Below.refl _ _⟩
  case round =>
    obtain ⟨i', m, fu, v, st, o, rfl, rfl, rfl, hi', hm', hu, hv, hom, ho, hb⟩ := hrel
    generalize wr = wo at *
    obtain ⟨A1, n1, c1, rfl, hi1, ha1⟩ := ho.ints
    have HA1 := Lib.hid ha1
    clear ha1
    obtain rfl : n1 = o.length := hi1.len.symm
    have hoc := hi1.cap
    have hox := hi1.max
    have HO := Lib.hid ho
    have HB := Lib.hid hb
    have HI1 := Lib.hid hi1
    clear ho hb hi1
    obtain ⟨N1, hN1⟩ : ∃ N1, o.length = N1 := ⟨_, rfl⟩
    have HN1 := Lib.hid hN1
    have hs : N1 + m = n := by rw [← hN1]; exact hom.out
    rw [hN1] at hoc HI1 HO ⊢
    clear hN1
    by_cases hm0 : 0 < m
    · obtain ⟨f, rfl⟩ : ∃ f, fu = f + 1 := ⟨fu - 1, by omega⟩
      have hlt : (N1 : Int) < (n : Int) := by omega
      have hsub : (n : Int) - (N1 : Int) = (m : Int) := by omega
      obtain ⟨x, j, er, hg, hj, hij, hxl, hcase⟩ := GP.out i' (by rw [HLn.out]; exact hi')
      rw [HLn.out] at hj
      have hu1 := hu.out
      rw [unpGo, if_neg (by omega), hg] at hu1
      dsimp only at hu1
      have g1 := GR.out i' hi' wo (H.out.below HB.out)
      obtain ⟨hv0, hv1⟩ := hv
      rcases hcase with ⟨rfl, hgv, hijj⟩ | ⟨her, her8, hgv⟩
      · rw [hgv] at g1
        rw [if_neg (by simp)] at hu1
        have G1 := Lib.hid g1
        have hmeas : L + 1 - j < L + 1 - i' := by omega
        clear g1 hgv hg hu hijj hij
        go_wp2_with fail
        refine (G1.out).mono ?_
        rintro e w1 ⟨rfl, rfl⟩
        by_cases hx : (x : Int) < 2
        · rw [if_pos (by omega)] at hu1
          subst hu1
          go_wp2
          go_returns
          exact RetUR.none_ (by simp) HB.out
        · rw [if_neg (by omega)] at hu1
          obtain ⟨tq, ht⟩ : ∃ tq, x / 2 = tq := ⟨_, rfl⟩
          have e3 : (x : Int) / 2 = (tq : Int) := by omega
          have ht1 : 1 ≤ tq := by omega
          have htl : (tq : Int) ≤ 576460752303423488 := by omega
          rw [ht] at hu1
          by_cases hev : x % 2 = 0
          · rw [if_pos hev] at hu1
            have e1 : (x : Int) % 2 = 0 := by omega
            have e0 : (x : Int).tmod 2 = 0 := by rw [Int.tmod_eq_emod_of_nonneg (by omega)]; omega
            clear ht hev
            by_cases hbad : m < tq ∨ st = true
            · rw [if_pos hbad] at hu1
              subst hu1
              cases st
              · have hmt : (m : Int) < (tq : Int) := by simp at hbad; omega
                clear hbad
                go_wp2
                go_returns
                exact RetUR.none_ (by simp) HB.out
              · clear hbad
                go_wp2
                go_returns
                exact RetUR.none_ (by simp) HB.out
            · rw [if_neg hbad] at hu1
              obtain rfl : st = false := by cases st; rfl; exact absurd (Or.inr rfl) hbad
              have hmt : ¬ (m : Int) < (tq : Int) := by intro h; exact hbad (.inl (by omega))
              have HUU := Lib.hid hu1
              have hdm : decide (m < tq) = false := by simp; omega
              have hdx : decide ((x : Int) < 2) = false := by simp; omega
              clear hu1 hbad
              go_wp2
              go_loopw [9, 15] (fun vo vk wr => ∃ k : Nat, k ≤ tq ∧ vk = .int .i64 k ∧ Own wr w.heap.size vo (o ++ List.replicate k v) ∧ Below w.heap.size w wr) (fun _ vk _ => tq - (intOf vk).toNat)
              case atStart => exact ⟨0, Nat.zero_le _, rfl, by rw [List.replicate_zero, List.append_nil]; exact HO.out, HB.out⟩
              case round =>
                obtain ⟨k, hk, rfl, ho, hb⟩ := hrel
                generalize wr = wp at *
                have HB2 := Lib.hid hb
                have hsz := hb.size
                have HO2 := Lib.hid ho
                clear hb ho
                by_cases hkt : k < tq
                · obtain ⟨A2, n2, c2, e2, i2, -⟩ := HO2.out.ints
                  subst e2
                  have HE : Hid (o ++ (List.replicate k v ++ [v]) = o ++ List.replicate (k + 1) v) := Lib.hid (by rw [← List.replicate_succ'])
                  have hll : (o ++ List.replicate k v).length = N1 + k := by rw [List.length_append, List.length_replicate, HN1.out]
                  have HLL := Lib.hid hll
                  clear i2 hll
                  go_wp2_with (at_builtin; refine wpList_append_int wp w.heap.size _ (o ++ List.replicate k v) v rfl _ _ rfl rfl rfl HO2.out hsz (by rw [HLL.out]; omega) (by omega) ?_)
                  intro v3 w3 ho3 hb3
                  rw [HE.out] at ho3
                  have HO3 := Lib.hid ho3
                  have HB3 := Lib.hid (HB2.out.trans hb3)
                  clear ho3 hb3
                  go_wp2
                  go_roundw
                  case rel => exact ⟨k + 1, by omega, by go_num, HO3.out, HB3.out⟩
                  case measure => simp [intOf]; try omega
                · obtain rfl : k = tq := by omega
                  have HLL : Hid ((o ++ List.replicate k v).length + (m - k) = n) := Lib.hid (by rw [List.length_append, List.length_replicate, HN1.out]; omega)
                  clear hkt hk
                  go_wp2
                  go_roundw
                  case rel => exact ⟨j, m - k, f, v, true, o ++ List.replicate k v, rfl, rfl, rfl, hj, by omega, HUU, by omega, HLL, HO2.out, HB2.out⟩
                  case measure => simp [intOf]; try omega
          · rw [if_neg hev] at hu1
            have e1 : (x : Int) % 2 = 1 := by omega
            have e1b : ((x : Int) % 2 == 0) = false := by rw [e1]; rfl
            have UF := Lib.hid (fun W => Unfolded_ref tq W (by omega))
            have hul := unfoldN_le tq
            obtain ⟨u, huu⟩ : ∃ u, unfoldN tq = u := ⟨_, rfl⟩
            rw [huu] at hu1 hul UF
            obtain ⟨hul0, hul1⟩ := hul
            obtain ⟨v', hv'⟩ : ∃ v', v + u = v' := ⟨_, rfl⟩
            rw [hv'] at hu1
            have hvl0 : -1152921504606846976 ≤ v' := by omega
            have hvl1 : v' ≤ 1152921504606846976 := by omega
            clear ht hev huu
            by_cases hob : outP v' = true
            · rw [if_pos hob] at hu1
              subst hu1
              unfold outP at hob
              simp only [Bool.or_eq_true, decide_eq_true_eq] at hob
              have hob2 : v' < -1099511627776 ∨ (¬ v' < -1099511627776 ∧ 1099511627776 < v') := by omega
              clear hob
              rcases hob2 with h1 | ⟨h1, h2⟩ <;> (
                go_wp2_with fail
                refine (UF.out _).mono ?_
                rintro e w2 ⟨rfl, rfl⟩
                go_wp2
                go_returns
                exact RetUR.none_ (by simp) HB.out)
            · rw [if_neg hob] at hu1
              unfold outP at hob
              simp only [Bool.or_eq_true, decide_eq_true_eq, not_or] at hob
              obtain ⟨ho0, ho1⟩ := hob
              have HUU := Lib.hid hu1
              have HLL : Hid ((o ++ [v']).length + (m - 1) = n) := Lib.hid (by rw [List.length_append, HN1.out]; simp; omega)
              have hsz := HB.out.size
              clear hu1
              go_wp2_with fail
              refine (UF.out _).mono ?_
              rintro e w2 ⟨rfl, rfl⟩
              go_wp2_with (at_builtin; refine wpList_append_int wo w.heap.size _ o v' rfl _ _ rfl rfl rfl HO.out hsz (by rw [HN1.out]; omega) (by omega) ?_)
              intro v3 w3 ho3 hb3
              have HO3 := Lib.hid ho3
              have HB3 := Lib.hid (HB.out.trans hb3)
              clear ho3 hb3
              go_wp2
              go_roundw
              case rel => exact ⟨j, m - 1, f, v', false, o ++ [v'], rfl, rfl, rfl, hj, by omega, HUU, by omega, HLL, HO3.out, HB3.out⟩
              case measure => simp [intOf]; try omega
      · rw [hgv] at g1
        rw [if_pos (by omega)] at hu1
        subst hu1
        have G1 := Lib.hid g1
        have heq : (er == 0) = false := by simp; omega
        have HNE : Hid (¬ er = 0) := Lib.hid (by omega)
        clear g1 hgv hg hu her
        go_wp2_with fail
        refine (G1.out).mono ?_
        rintro e w1 ⟨rfl, rfl⟩
        go_wp2
        go_returns
        exact RetUR.none_ HNE.out HB.out
    · obtain rfl : m = 0 := by omega
      have hu1 := hu.out
      rw [unpGo_zero] at hu1
      subst hu1
      have hlt : ¬ (N1 : Int) < (n : Int) := by omega
      clear hu hm0
      go_wp2
      go_returns
      exact ⟨_, _, _, o, _, rfl, HI1.out, HB.out, HA1.out, fun _ => ⟨rfl, by simp only [List.length_drop]; rw [HLn.out]; omega⟩⟩
end Go.Proofs.Ytchnfahgmceohaa
