/- Nested of the program. -/
import Derived.Test.YtfhikdgdckfalaaNestLaw
import Derived.Test.YtfhikdgdckfalaaShift
import Derived.Test.YtfhikdgdckfalaaMB08
import Derived.BigQuiet
import Derived.Sort.WalkA
import Derived.Sort.WalkB2
import Derived.Sort.WalkB12
import Derived.BigRegion
import Derived.Shelf.RegionOpenPlain
import Derived.StillTailTactics
import Derived.Deep.DeepCutAuto
namespace Go.Proofs.Ytfhikdgdckfalaa
open Go.RowKit
set_option linter.unusedVariables false

/-- The world of the loops: the sums, the chain so far. -/
structure NsW (w wr : World) (Am : Option Addr) (nm cm : Nat) (ds : List Int) (vc : Value) (n m : Nat) : Prop where
  ms : Ints wr Am nm cm (fl nm (sumF (mx0 ds)))
  ch : m = 0 ∨ ∃ gc L cc, vc = .slice (some ⟨gc, 0, none⟩) L cc ∧ L = n - m + 1 ∧ L ≤ cc ∧ cc ≤ 9223372036854775807 ∧ BRow wr gc L (goodN ds n m)
  bel : Below w.heap.size w wr
theorem NsW.below {w wr wx : World} {Am : Option Addr} {nm cm : Nat} {ds : List Int} {vc : Value} {n m : Nat} (h : NsW w wr Am nm cm ds vc n m) (hb : Below wr.heap.size wr wx) : NsW w wx Am nm cm ds vc n m :=
  ⟨h.ms.below hb, h.ch.imp id fun ⟨gc, L, cc, e1, e0, e2, e3, r⟩ => ⟨gc, L, cc, e1, e0, e2, e3, r.below hb r.lt⟩, below_then h.bel hb h.bel.size⟩
theorem NsW.drewN {w wr : World} {Am : Option Addr} {nm cm : Nat} {ds : List Int} {vc : Value} {n m : Nat} (h : NsW w wr Am nm cm ds vc n m) (d : Nat) : NsW w (wr.drewN d) Am nm cm ds vc n m := h.below (below_drewN (Below.refl _ _) d)
/-- A store into the block behind the world wd. -/
theorem NsW.put {w wd wr : World} {Am : Option Addr} {nm cm : Nat} {ds : List Int} {vc : Value} {n m : Nat} (h : NsW w wr Am nm cm ds vc n m) (hd : NsW w wd Am nm cm ds vc n m) (i : Nat) (u : Value) : NsW w (wr.setCell ⟨wd.heap.size, i, none⟩ u) Am nm cm ds vc n m := by
  refine ⟨?_, ?_, h.bel.setCell (p := ⟨wd.heap.size, i, none⟩) hd.bel.size u⟩
  · by_cases h0 : nm = 0
    · subst h0
      exact ⟨h.ms.len, h.ms.cap, h.ms.max, h.ms.few, h.ms.rng, fun hn => absurd hn (by omega), h.ms.nl⟩
    · obtain ⟨ad, e, hl, -⟩ := hd.ms.at_ (k := 0) (by omega)
      exact h.ms.far (p := ⟨wd.heap.size, i, none⟩) (fun ad' e' => by rw [e] at e'; injection e' with e'; subst e'; show ad.block ≠ wd.heap.size; omega) u
  · rcases h.ch with h0 | ⟨gc, L, cc, e1, e0, e2, e3, r⟩
    · exact .inl h0
    · rcases hd.ch with h0 | ⟨gc', L', cc', e1', -, -, -, r'⟩
      · exact .inl h0
      · rw [e1] at e1'
        injection e1' with e4 e5 e6
        injection e4 with e4
        injection e4 with e4
        subst e4
        exact .inr ⟨gc, L, cc, e1, e0, e2, e3, r.far (p := ⟨wd.heap.size, i, none⟩) (Nat.ne_of_lt r'.lt) u⟩
theorem goodN_one (ds : List Int) (n i : Nat) : goodN ds n 1 i = decide (runV ds i 1 = mostN ds n 1) := by
  show (decide (runV ds i 1 = mostN ds n 1) && (decide ((0 : Nat) = 0) || _)) = _
  simp
theorem goodN_succ {ds : List Int} {n m i : Nat} (h : 0 < m) : goodN ds n (m + 1) i = (decide (runV ds i (m + 1) = mostN ds n (m + 1)) && (goodN ds n m i || goodN ds n m (i + 1))) := by
  show (decide _ && (decide (m = 0) || _)) = _
  rw [decide_eq_false (show ¬ m = 0 by omega), Bool.false_or]

set_option maxRecDepth 100000 in
set_option maxHeartbeats 8000000 in
theorem Nested_calls {A : Option Addr} {n c : Nat} {ds : List Int} (f st : Int) (w : World) (h : Ints w A n c ds) :
    Calls Try.prog 26 #[serA f st A n c] w fun e w' => e = .returned (.tuple (if validS f st ds = true then #[.bool (nestV ds), .int .i64 0] else #[.bool false, .int .i64 1])) ∧ Below w.heap.size w w' := by
  obtain ⟨W0, hW0⟩ : ∃ W0, w.alloc (serO f st A n c) = W0 := ⟨_, rfl⟩
  have hb0 : Below w.heap.size w W0 := by rw [← hW0]; exact (Below.refl _ _).alloc (Nat.le_refl _) _
  have x0 : SBox W0 w.heap.size f st A n c := by rw [← hW0]; exact SBox.made _ _ _ _ _ _
  have gv := gValid_calls f st W0 (h.below hb0)
  have hcap := h.cap
  have hmax := h.max
  have HL := Lib.hid h.len
  have I0 := Lib.hid h
  have B0 := Lib.hid hb0
  have X0 := Lib.hid x0
  obtain ⟨k0, k1, k2, kl⟩ := x0.cells
  clear h hb0 x0
  cases hv : validS f st ds
  · rw [hv] at gv
    rw [if_neg (by simp)]
    have GV := Lib.hid gv
    clear gv hv
    go_enter Try.func26, Try.ntmps26
    go_wp2_with fail
    refine (GV.out).mono ?_
    rintro e w2 ⟨rfl, b2⟩
    have B1 := Lib.hid (below_then B0.out b2 B0.out.size)
    clear b2
    go_wp2
    go_returns
    exact ⟨rfl, B1.out⟩
  rw [hv] at gv
  rw [if_pos rfl]
  have GV := Lib.hid gv
  obtain ⟨fo, hdz⟩ := validS_parts hv
  have hn1 : n ≤ 10000 := by have := fo.n1; rw [HL.out] at this; exact this
  have SB := Lib.hid (fun k (hk : k ≤ ds.length) => sumM_bd (M := 4194304) (by omega) (fun z hz => (hdz z hz).2) hk)
  have RB := Lib.hid (fun i k (h : i + k ≤ ds.length) => run_bd (fun z hz => (hdz z hz).2) h (by rw [HL.out]; exact hn1))
  have DZ := Lib.hid (fun k (hk : k < ds.length) => hdz _ (el_mem hk))
  clear gv hv fo hdz
  go_enter Try.func26, Try.ntmps26
  go_wp2_with fail
  refine (GV.out).mono ?_
  rintro e w2 ⟨rfl, b2⟩
  have X2 := Lib.hid (X0.out.below b2 X0.out.lt)
  have B2 := Lib.hid (below_then B0.out b2 B0.out.size)
  have hl2 : w.heap.size + 1 ≤ w2.heap.size := X2.out.lt
  obtain ⟨p0, p1, p2, pl⟩ := X2.out.cells
  have IL := Ints.lit w2 [0] (by simp) (fun z hz => by rw [List.mem_singleton] at hz; rw [hz]; omega)
  have OL : Hid (Own (w2.alloc (.cells #[.int .i64 0] 3)) (w.heap.size + 1) (.slice (some ⟨w2.heap.size, 0, none⟩) 1 1) (fl 1 (sumF (mx0 ds)))) := Lib.hid ⟨⟨rfl, .inr ⟨w2.heap.size, 1, #[.int .i64 0], rfl, hl2, by show (w2.heap.push _)[w2.heap.size]? = _; exact Array.getElem?_push_size, Nat.le_refl _, by unfold maxLen; omega, rfl, rfl⟩⟩, fun z hz => by
    rw [show fl 1 (sumF (mx0 ds)) = [0] from rfl, List.mem_singleton] at hz; omega, by rw [fl_length]; omega⟩
  have B3 := Lib.hid (B2.out.alloc B2.out.size (.cells #[.int .i64 0] 3))
  have X3 := Lib.hid (X2.out.below ((Below.refl w2.heap.size w2).alloc (Nat.le_refl _) (.cells #[.int .i64 0] 3)) X2.out.lt)
  clear b2 k0 k1 k2 kl GV IL
  go_wp2
  go_loopw [4, 22] (fun v i wr => ∃ k : Nat, k ≤ n ∧ i = .int .i64 k ∧ Own wr (w.heap.size + 1) v (fl (k + 1) (sumF (mx0 ds))) ∧ SBox wr w.heap.size f st A n c ∧ Below w.heap.size w wr) (fun _ i _ => n - (intOf i).toNat)
  case atStart => exact ⟨0, Nat.zero_le _, rfl, OL.out, X3.out, B3.out⟩
  case round =>
    clear OL X3 B3 p0 p1 p2 pl B2 X2 X0 B0
    obtain ⟨k, hk, rfl, ho, hx, hb⟩ := hrel
    generalize wr = wo at *
    have HO := Lib.hid ho
    have HX := Lib.hid hx
    have HB := Lib.hid hb
    obtain ⟨A1, n1, c1, e1, i1, g1⟩ := ho.ints
    subst e1
    have hn1' : n1 = k + 1 := by rw [← i1.len, fl_length]
    have HN1 := Lib.hid hn1'
    have hc1 := i1.cap
    have hm1 := i1.max
    have hlo : w.heap.size + 1 ≤ wo.heap.size := hx.lt
    by_cases hlt : (k : Int) < (n : Int)
    · obtain ⟨ad, rfl, -, hc⟩ := (I0.out.below hb).at_ (k := k) (by omega)
      obtain ⟨ax, rfl, -, hcx⟩ := i1.at_ (k := k) (by omega)
      rw [el_fl _ (by omega)] at hcx
      have b1 := SB.out k (by rw [HL.out]; omega)
      have b2 := SB.out (k + 1) (by rw [HL.out]; omega)
      have b3 := DZ.out k (by rw [HL.out]; omega)
      have ens : sumF (mx0 ds) (k + 1) = sumF (mx0 ds) k + mx0 ds k := rfl
      have emx : mx0 ds k = if el ds k < 0 then 0 else el ds k := rfl
      have b4 : ((k : Nat) : Int) * 4194304 ≤ 41943040000 := by omega
      have b5 : ((k + 1 : Nat) : Int) * 4194304 ≤ 41943040000 := by omega
      have NX : Hid (∀ T, T = sumF (mx0 ds) (k + 1) → fl (k + 1) (sumF (mx0 ds)) ++ [T] = fl (k + 1 + 1) (sumF (mx0 ds))) := Lib.hid (fun T hT => by rw [hT, ← fl_succ])
      have LF : Hid ((fl (k + 1) (sumF (mx0 ds))).length < 17592186044416) := Lib.hid (by rw [fl_length]; omega)
      have en : (n1 : Int) - 1 = (k : Int) := by omega
      generalize sumF (mx0 ds) (k + 1) = S1 at *
      generalize hS : sumF (mx0 ds) k = S at *
      generalize el ds k = x at *
      rw [emx] at ens
      clear ho hx hb i1 g1 hn1' hS emx
      by_cases hneg : x < 0
      · rw [if_pos hneg] at ens
        have NX1 := Lib.hid (NX.out S (by omega))
        have emax : max 0 x = 0 := by omega
        clear NX ens
        go_wp2_with (at_builtin; refine wpList_append_int wo (w.heap.size + 1) _ (fl (k + 1) (sumF (mx0 ds))) S rfl _ _ rfl rfl rfl HO.out hlo LF.out (by omega) ?_)
        intro v5 w5 ho5 hb5
        rw [NX1.out] at ho5
        have O5 := Lib.hid ho5
        have X5 := Lib.hid (HX.out.below hb5 (by omega))
        have B5 := Lib.hid (HB.out.trans (hb5.mono (by omega)))
        clear ho5 hb5 HO HX HB
        go_wp2
        go_roundw
        case rel => exact ⟨k + 1, by omega, by go_num, O5.out, X5.out, B5.out⟩
        case measure => simp [intOf]; try omega
      · rw [if_neg hneg] at ens
        have NX1 := Lib.hid (NX.out (S + x) (by omega))
        have emax : max 0 x = x := by omega
        clear NX ens
        go_wp2_with (at_builtin; refine wpList_append_int wo (w.heap.size + 1) _ (fl (k + 1) (sumF (mx0 ds))) (S + x) rfl _ _ rfl rfl rfl HO.out hlo LF.out (by omega) ?_)
        intro v5 w5 ho5 hb5
        rw [NX1.out] at ho5
        have O5 := Lib.hid ho5
        have X5 := Lib.hid (HX.out.below hb5 (by omega))
        have B5 := Lib.hid (HB.out.trans (hb5.mono (by omega)))
        clear ho5 hb5 HO HX HB
        go_wp2
        go_roundw
        case rel => exact ⟨k + 1, by omega, by go_num, O5.out, X5.out, B5.out⟩
        case measure => simp [intOf]; try omega
    · obtain rfl : n = k := by omega
      have NS := Lib.hid (show NsW w wo A1 n1 c1 ds (.slice none 0 0) n 0 from ⟨by rw [hn1']; rw [hn1'] at i1; exact i1, .inl rfl, hb⟩)
      obtain ⟨p0, p1, p2, pl⟩ := hx.cells
      have NV : Hid (nestV ds = nestTo ds n n) := Lib.hid (by unfold nestV; rw [HL.out])
      have hnn : n < n1 := by omega
      have hn2 : n1 ≤ 10001 := by omega
      clear ho hx hb i1 g1 HO HX HB hn1'
      go_wp2
      go_loopw [8, 9] (fun vc vk wr => ∃ k m : Nat, vk = .int .i64 k ∧ Hid (k = m + 1) ∧ 1 ≤ k ∧ k ≤ n + 1 ∧ NsW w wr A1 n1 c1 ds vc n m ∧ Hid (nestTo ds n m = true)) (fun _ vk _ => n + 1 - (intOf vk).toNat)
      case atStart => exact ⟨1, 0, rfl, rfl, by omega, by omega, NS.out, rfl⟩
      case round =>
        clear NS p0 p1 p2 pl
        obtain ⟨k, m, rfl, hkm, k0, k1, hns, hto⟩ := hrel
        generalize wr = wo at *
        have NS := Lib.hid hns
        clear hns
        by_cases hlt : (k : Int) ≤ (n : Int)
        · obtain ⟨q, hq⟩ : ∃ q, n - k = q := ⟨_, rfl⟩
          have eq1 : (n : Int) - (k : Int) = (q : Int) := by omega
          have hqk : q + k = n := by omega
          have HQK := Lib.hid hqk
          have HMN : Hid (mostN ds n k = maxV (fun i => runV ds i k) q) := Lib.hid (by unfold mostN; rw [hq])
          obtain ⟨N, hN⟩ : ∃ N, q + 1 = N := ⟨_, rfl⟩
          have eN : (q : Int) + 1 = (N : Int) := by omega
          have HNN := Lib.hid hN
          have hNn : N ≤ n := by omega
          have hNq : q < N := by omega
          clear hq hqk hN
          go_wp2
          go_loopw [10, 11] (fun vs vi wr => ∃ (i : Nat) (S : Int) (d : Nat), i ≤ N ∧ vi = .int .i64 i ∧ vs = .int .i64 S ∧ Hid (S = pmV (fun i => runV ds i k) i) ∧ 0 ≤ S ∧ S ≤ 41943040000 ∧ wr = wo.drewN d) (fun _ vi _ => N - (intOf vi).toNat)
          case atStart => exact ⟨0, 0, 0, Nat.zero_le _, rfl, rfl, rfl, by omega, by omega, rfl⟩
          case round =>
            obtain ⟨i, S, d, hi, rfl, rfl, hS, s0, s1, rfl⟩ := hrel
            by_cases hik : (i : Int) + (k : Int) ≤ (n : Int)
            · obtain ⟨j, hj⟩ : ∃ j, i + k = j := ⟨_, rfl⟩
              have ej : (i : Int) + (k : Int) = (j : Int) := by omega
              obtain ⟨ad, rfl, -, hc⟩ := NS.out.ms.at_ (k := j) (by omega)
              obtain ⟨ad', e', -, hc'⟩ := NS.out.ms.at_ (k := i) (by omega)
              injection e' with e'
              subst e'
              rw [el_fl _ (by omega)] at hc hc'
              have rb := RB.out i k (by rw [HL.out]; omega)
              have rb0 := RB.out 0 k (by rw [HL.out]; omega)
              have ps := pmV_step (F := fun i => runV ds i k) (i := i) rb.1 rb0.1
              rw [← hS.out] at ps
              have er : runV ds i k = sumF (mx0 ds) j - sumF (mx0 ds) i := by unfold runV; rw [hj]
              have bj := SB.out j (by rw [HL.out]; omega)
              have bi := SB.out i (by rw [HL.out]; omega)
              generalize sumF (mx0 ds) j = a at *
              generalize sumF (mx0 ds) i = b at *
              have bb0 : 0 ≤ b := bi.1
              have aa0 : a ≤ 41943040000 := by have := bj.2; omega
              rw [er] at rb ps
              obtain ⟨D, hD⟩ : ∃ D, a - b = D := ⟨_, rfl⟩
              rw [hD] at rb ps
              have PS := Lib.hid ps
              obtain ⟨D0, D1⟩ := rb
              have rj : IntKind.i64.wrap (j : Int) = (j : Int) := IntWalk.i64_in _ (by omega)
              have rD : IntKind.i64.wrap D = D := IntWalk.i64_in _ (by omega)
              have j0 : (0 : Int) ≤ (j : Int) := by omega
              have i0 : (0 : Int) ≤ (i : Int) := by omega
              have jn : (j : Int) < (n1 : Int) := by omega
              have in1 : (i : Int) < (n1 : Int) := by omega
              clear ps er bj bi rb0 hj
              by_cases hSD : S < D
              · have em : max S D = D := by omega
                have PS1 : Hid (D = pmV (fun i => runV ds i k) (i + 1)) := Lib.hid (by rw [PS.out, if_pos hSD])
                clear PS
                go_wp2_with fail
                go_quiet (fail)
                go_wp2
                go_roundw
                case rel => exact ⟨i + 1, D, _, by omega, by go_num, by first | rfl | (congr 1; omega), PS1, by omega, by omega, rfl⟩
                case measure => simp [intOf]; omega
              · have em : max S D = S := by omega
                have PS1 : Hid (S = pmV (fun i => runV ds i k) (i + 1)) := Lib.hid (by rw [PS.out, if_neg hSD])
                clear PS
                go_wp2_with fail
                go_quiet (fail)
                go_wp2
                go_roundw
                case rel => exact ⟨i + 1, S, _, by omega, by go_num, by first | rfl | (congr 1; omega), PS1, by omega, by omega, rfl⟩
                case measure => simp [intOf]; omega
            · obtain rfl : N = i := by omega
              have HS : Hid (S = mostN ds n k) := Lib.hid (by rw [hS.out, ← HNN.out, HMN.out]; rfl)
              have hmk := make_bools N (by omega)
              have NSd := Lib.hid (NS.out.drewN d)
              clear hS NS
              generalize wo.drewN d = wd at *
              have NS2 := Lib.hid (NSd.out.below ((Below.refl wd.heap.size wd).alloc (Nat.le_refl _) (.cells (madeCells #[.bool false] N) 4)))
              have BR := Lib.hid (BRow.made wd N)
              have HW : Hid (w.heap.size ≤ wd.heap.size) := Lib.hid NSd.out.bel.size
              go_wp2
              go_loopw [13, 74] (fun vs vi wr => ∃ (i : Nat) (s : Bool), i ≤ N ∧ vi = .int .i64 i ∧ vs = .bool s ∧ Hid (s = anyTo (goodN ds n k) i) ∧ NsW w wr A1 n1 c1 ds u8 n m ∧ BRow wr wd.heap.size N (nxF (goodN ds n k) i)) (fun _ vi _ => N - (intOf vi).toNat)
              case atStart => exact ⟨0, false, Nat.zero_le _, rfl, rfl, rfl, NS2.out, BR.out.congr (fun j _ => by simp [nxF])⟩
              case round =>
                clear NS2 BR hmk
                obtain ⟨i, s, hi, rfl, rfl, hs, hns, hbr⟩ := hrel
                generalize wr = wo at *
                have NS := Lib.hid hns
                have BR := Lib.hid hbr
                clear hns hbr
                by_cases hiN : (i : Int) < (N : Int)
                · obtain ⟨j, hj⟩ : ∃ j, i + k = j := ⟨_, rfl⟩
                  have ej : (i : Int) + (k : Int) = (j : Int) := by omega
                  have hjn : j ≤ n := by have := HQK.out; have := HNN.out; omega
                  obtain ⟨ad, rfl, -, hc⟩ := NS.out.ms.at_ (k := j) (by omega)
                  obtain ⟨ad', e', -, hc'⟩ := NS.out.ms.at_ (k := i) (by omega)
                  injection e' with e'
                  subst e'
                  rw [el_fl _ (by omega)] at hc hc'
                  have er : runV ds i k = sumF (mx0 ds) j - sumF (mx0 ds) i := by unfold runV; rw [hj]
                  have bj := SB.out j (by rw [HL.out]; omega)
                  have bi := SB.out i (by rw [HL.out]; omega)
                  have G1 : Hid (m = 0 → goodN ds n k i = decide (runV ds i k = S)) := Lib.hid (fun h => by rw [hkm.out, h, goodN_one, HS.out, hkm.out, h])
                  have G2 : Hid (0 < m → goodN ds n k i = (decide (runV ds i k = S) && (goodN ds n m i || goodN ds n m (i + 1)))) := Lib.hid (fun h => by rw [hkm.out, goodN_succ h, HS.out, hkm.out])
                  have NX := Lib.hid (fun t => nxF_step (goodN ds n k) i t)
                  have ANY : Hid (anyTo (goodN ds n k) (i + 1) = (s || goodN ds n k i)) := Lib.hid (by rw [anyTo, hs.out])
                  rw [er] at G1 G2
                  generalize sumF (mx0 ds) j = a at *
                  generalize sumF (mx0 ds) i = b at *
                  have bb0 : 0 ≤ b := bi.1
                  have aa0 : a ≤ 41943040000 := by have := bj.2; omega
                  have ab0 : -41943040000 ≤ a - b := by have := bj.1; have := bi.2; omega
                  obtain ⟨D, hD⟩ : ∃ D, a - b = D := ⟨_, rfl⟩
                  rw [hD] at G1 G2 ab0
                  have rj : IntKind.i64.wrap (j : Int) = (j : Int) := IntWalk.i64_in _ (by omega)
                  have rD : IntKind.i64.wrap D = D := IntWalk.i64_in _ (by omega)
                  have j0 : (0 : Int) ≤ (j : Int) := by omega
                  have i0 : (0 : Int) ≤ (i : Int) := by omega
                  have jn : (j : Int) < (n1 : Int) := by omega
                  have in1 : (i : Int) < (n1 : Int) := by omega
                  have bc := BR.out.cell i (by omega)
                  have bf := BR.out.free i
                  have mixed : Try.prog.follows Departure.mixedOrders = true := by kernel_rfl
                  clear er bj bi hj
                  generalize hG : goodN ds n k i = J at *
                  have NB : Hid (∀ W, NsW w W (some ad) n1 c1 ds u8 n m → BRow W wd.heap.size N (nxF (goodN ds n k) i) → NsW w (W.setCell ⟨wd.heap.size, i, none⟩ (.bool J)) (some ad) n1 c1 ds u8 n m ∧ BRow (W.setCell ⟨wd.heap.size, i, none⟩ (.bool J)) wd.heap.size N (nxF (goodN ds n k) (i + 1))) := Lib.hid (fun W h1 h2 => ⟨h1.put NSd.out i _, (h2.set i J).congr (fun t _ => NX.out t)⟩)
                  have JX : Hid (nxF (goodN ds n k) (i + 1) i = J) := Lib.hid (by unfold nxF; rw [if_pos (by omega)]; exact hG)
                  clear hG
                  go_upto_region 24 with fail
                  go_cut [] (fun wx => NsW w wx (some ad) n1 c1 ds u8 n m ∧ BRow wx wd.heap.size N (nxF (goodN ds n k) (i + 1)))
                  case first =>
                    as_aux_lemma =>
                    by_cases hDS : D = S
                    · have t1 : (D == S) = true := by simp [hDS]
                      by_cases hm0 : m = 0
                      · have hJ : J = true := by rw [G1.out hm0, decide_eq_true hDS]
                        subst hJ
                        have hk1 : ((k : Int) == 1) = true := by have := hkm.out; simp; omega
                        clear G1 G2 hDS
                        go_wp2_with fail
                        go_big_region_o
                        go_wp2_with fail
                        go_meet
                        have q := NB.out wo NS.out BR.out
                        exact ⟨q.1.drewN 1, q.2.drewN 1⟩
                      · have hk1 : ((k : Int) == 1) = false := by have := hkm.out; simp; omega
                        have g2 := G2.out (by omega)
                        rw [decide_eq_true hDS, Bool.true_and] at g2
                        rcases NS.out.ch with h0 | ⟨gc, L, cc, e1, e0, e2, e3, r⟩
                        · exact absurd h0 hm0
                        have hLi : i + 1 < L := by have := HQK.out; have := HNN.out; have := hkm.out; omega
                        obtain ⟨i1, hi1⟩ : ∃ i1, i + 1 = i1 := ⟨_, rfl⟩
                        have ei1 : (i : Int) + 1 = (i1 : Int) := by omega
                        have cb1 := r.cell i (by omega)
                        have cb2 := r.cell (i + 1) hLi
                        rw [hi1] at cb2 g2
                        have ri1 : IntKind.i64.wrap (i1 : Int) = (i1 : Int) := IntWalk.i64_in _ (by omega)
                        have z1 : (0 : Int) ≤ (i1 : Int) := by omega
                        have z2 : (i1 : Int) < (L : Int) := by omega
                        have z3 : (i : Int) < (L : Int) := by omega
                        generalize goodN ds n m i = b1 at *
                        generalize goodN ds n m i1 = b2 at *
                        have NB' := NB
                        subst e1
                        clear G1 G2 hDS r e0 hi1
                        cases b1
                        · rw [Bool.false_or] at g2
                          subst g2
                          cases J
                          · go_wp2_with fail
                            go_big_region_o
                            go_wp2_with fail
                            go_meet
                            have q := NB.out wo NS.out BR.out
                            exact ⟨q.1.drewN 1, q.2.drewN 1⟩
                          · go_wp2_with fail
                            go_big_region_o
                            go_wp2_with fail
                            go_meet
                            have q := NB.out wo NS.out BR.out
                            exact ⟨q.1.drewN 1, q.2.drewN 1⟩
                        · rw [Bool.true_or] at g2
                          subst g2
                          go_wp2_with fail
                          go_big_region_o
                          go_wp2_with fail
                          go_meet
                          have q := NB.out wo NS.out BR.out
                          exact ⟨q.1.drewN 1, q.2.drewN 1⟩
                    · have t1 : (D == S) = false := by simp [hDS]
                      have hJ : J = false := by
                        by_cases hm0 : m = 0
                        · rw [G1.out hm0, decide_eq_false hDS]
                        · rw [G2.out (by omega), decide_eq_false hDS, Bool.false_and]
                      subst hJ
                      clear G1 G2 hDS
                      go_wp2_with fail
                      go_big_region_o
                      go_wp2_with fail
                      go_meet
                      have q := NB.out wo NS.out BR.out
                      exact ⟨q.1.drewN 1, q.2.drewN 1⟩
                  case rest =>
                    obtain ⟨hns, hbr⟩ := hcut
                    rename World => wx
                    have NS2 := Lib.hid hns
                    have BR2 := Lib.hid hbr
                    have cj := hbr.cell i (by omega)
                    rw [JX.out] at cj
                    clear hns hbr NS BR NB G1 G2 NX bc bf hc hc' JX hD rD
                    cases s
                    · rw [Bool.false_or] at ANY
                      go_wp2
                      go_roundw
                      case rel => exact ⟨i + 1, J, by omega, by go_num, rfl, Lib.hid ANY.out.symm, NS2.out, BR2.out⟩
                      case measure => simp [intOf]; omega
                    · rw [Bool.true_or] at ANY
                      go_wp2
                      go_roundw
                      case rel => exact ⟨i + 1, true, by omega, by go_num, rfl, Lib.hid ANY.out.symm, NS2.out, BR2.out⟩
                      case measure => simp [intOf]; omega
                · obtain rfl : N = i := by omega
                  have HNK : Hid (nestTo ds n k = s) := Lib.hid (by
                    have h1 := HQK.out
                    have h2 := HNN.out
                    have h3 := hkm.out
                    rw [h3, nestTo, hto.out, Bool.true_and, ← h3, show n - m = N by omega]
                    exact hs.out.symm)
                  have ch : NsW w wo A1 n1 c1 ds (.slice (some ⟨wd.heap.size, 0, none⟩) N N) n k := ⟨NS.out.ms, .inr ⟨wd.heap.size, N, N, rfl, by have h1 := HQK.out; have h2 := HNN.out; omega, Nat.le_refl _, by omega, BR.out.congr (fun t ht => by unfold nxF; rw [if_pos ht])⟩, NS.out.bel⟩
                  have CH := Lib.hid ch
                  have BEL := Lib.hid NS.out.bel
                  clear ch NS BR hs NSd
                  cases s
                  · have HF : Hid (nestV ds = false) := Lib.hid (by
                      rw [NV.out]
                      cases hq : nestTo ds n n
                      · rfl
                      · have := nestTo_mono (show k ≤ n by omega) hq
                        rw [HNK.out] at this
                        cases this)
                    clear HNK CH
                    go_wp2
                    go_returns
                    exact ⟨by have h := HF.out; simp [h], BEL.out⟩
                  · go_wp2
                    go_roundw
                    case rel => exact ⟨k + 1, k, by go_num, rfl, by omega, by omega, CH.out, HNK⟩
                    case measure => simp [intOf]; omega
        · have HF : Hid (nestV ds = true) := Lib.hid (by
            rw [NV.out]
            have h1 := hkm.out
            have h2 : m = n := by omega
            rw [← h2]; rw [← h2] at hto; exact hto.out)
          have BEL := Lib.hid NS.out.bel
          clear NS
          go_wp2
          go_returns
          exact ⟨by have h := HF.out; simp [h], BEL.out⟩
end Go.Proofs.Ytfhikdgdckfalaa
