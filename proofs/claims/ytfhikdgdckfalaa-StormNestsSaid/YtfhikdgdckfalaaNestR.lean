/- Nested of the reference. -/
import Derived.Test.YtfhikdgdckfalaaNest
import Derived.Deep.RegionHeld3
namespace Go.Proofs.Ytfhikdgdckfalaa
open Go.RowKit
set_option linter.unusedVariables false

/-- The world of the loops: the depths, which runs are good so far. -/
structure NrW (w wr : World) (A : Option Addr) (n c : Nat) (ds : List Int) (vc : Value) (m : Nat) : Prop where
  i : Ints wr A n c ds
  ch : ∃ gc L, vc = .slice (some ⟨gc, 0, none⟩) L L ∧ L = n + 1 ∧ w.heap.size ≤ gc ∧ BRow wr gc L (nxF (goodN ds n m) (n - m + 1))
  bel : Below w.heap.size w wr
theorem NrW.below {w wr wx : World} {A : Option Addr} {n c : Nat} {ds : List Int} {vc : Value} {m : Nat} (h : NrW w wr A n c ds vc m) (hb : Below wr.heap.size wr wx) : NrW w wx A n c ds vc m :=
  ⟨h.i.below hb, by obtain ⟨gc, L, e1, e2, e3, r⟩ := h.ch; exact ⟨gc, L, e1, e2, e3, r.below hb r.lt⟩, below_then h.bel hb h.bel.size⟩
/-- A store into the block behind the world wd. -/
theorem NrW.put {w wd wr : World} {A : Option Addr} {n c : Nat} {ds : List Int} {vc : Value} {m : Nat} (h0 : Ints w A n c ds) (h : NrW w wr A n c ds vc m) (hd : NrW w wd A n c ds vc m) (i : Nat) (u : Value) : NrW w (wr.setCell ⟨wd.heap.size, i, none⟩ u) A n c ds vc m := by
  have hb := h.bel.setCell (p := ⟨wd.heap.size, i, none⟩) hd.bel.size u
  refine ⟨h0.below hb, ?_, hb⟩
  obtain ⟨gc, L, e1, e2, e3, r⟩ := h.ch
  obtain ⟨gc', L', e1', -, -, r'⟩ := hd.ch
  rw [e1] at e1'
  injection e1' with e4 e5 e6
  injection e4 with e4
  injection e4 with e4
  subst e4
  exact ⟨gc, L, e1, e2, e3, r.far (p := ⟨wd.heap.size, i, none⟩) (Nat.ne_of_lt r'.lt) u⟩

set_option maxRecDepth 100000 in
set_option maxHeartbeats 8000000 in
theorem Nested_ref {A : Option Addr} {n c : Nat} {ds : List Int} (w : World) (h : Ints w A n c ds) (hz : ∀ z ∈ ds, -1 ≤ z ∧ z ≤ 4194304) (hn1 : n ≤ 10000) :
    Calls Try.prog 27 #[.slice A n c] w fun e w' => e = .returned (.bool (nestV ds)) ∧ Below w.heap.size w w' := by
  have hcap := h.cap
  have hmax := h.max
  have HL := Lib.hid h.len
  have I0 := Lib.hid h
  have RB := Lib.hid (fun i k (h : i + k ≤ ds.length) => run_bd (fun z hz' => (hz z hz').2) h (by rw [HL.out]; exact hn1))
  have RUN := Lib.hid (fun i k W (I : Ints W A n c ds) (hk : 0 < k) (hik : i + k ≤ n) => Run_calls i k W I (fun z hz' => (hz z hz').2) hn1 hk hik)
  have NV : Hid (nestV ds = nestTo ds n n) := Lib.hid (by unfold nestV; rw [HL.out])
  obtain ⟨L, hL⟩ : ∃ L, n + 1 = L := ⟨_, rfl⟩
  have eL : (n : Int) + 1 = (L : Int) := by omega
  have hmk := make_bools L (by omega)
  have ba : Below w.heap.size w (w.alloc (.cells (madeCells #[.bool false] L) 4)) := (Below.refl _ _).alloc (Nat.le_refl _) _
  have NS := Lib.hid (show NrW w (w.alloc (.cells (madeCells #[.bool false] L) 4)) A n c ds (.slice (some ⟨w.heap.size, 0, none⟩) L L) 0 from ⟨h.below ba, ⟨w.heap.size, L, rfl, hL.symm, Nat.le_refl _, (BRow.made w L).congr fun j _ => by unfold nxF goodN; split <;> rfl⟩, ba⟩)
  have HLL := Lib.hid hL
  have hLb : L ≤ 10001 := by omega
  have hnL : n < L := by omega
  clear h hz ba hL
  go_enter Try.func27, Try.ntmps27
  go_wp2
  go_loopw [4, 5] (fun vc vk wr => ∃ k m : Nat, vk = .int .i64 k ∧ Hid (k = m + 1) ∧ 1 ≤ k ∧ k ≤ n + 1 ∧ NrW w wr A n c ds vc m ∧ Hid (nestTo ds n m = true)) (fun _ vk _ => n + 1 - (intOf vk).toNat)
  case atStart => exact ⟨1, 0, rfl, rfl, by omega, by omega, NS.out, rfl⟩
  case round =>
    clear NS
    obtain ⟨k, m, rfl, hkm, k0, k1, hns, hto⟩ := hrel
    generalize wr = wo at *
    have NS := Lib.hid hns
    clear hns
    by_cases hlt : (k : Int) ≤ (n : Int)
    · obtain ⟨q, hq⟩ : ∃ q, n - k = q := ⟨_, rfl⟩
      have hqk : q + k = n := by omega
      have HQK := Lib.hid hqk
      have HMN : Hid (mostN ds n k = maxV (fun i => runV ds i k) q) := Lib.hid (by unfold mostN; rw [hq])
      obtain ⟨N, hN⟩ : ∃ N, q + 1 = N := ⟨_, rfl⟩
      have HNN := Lib.hid hN
      have hNn : N ≤ n := by omega
      have hNk : N + k = n + 1 := by omega
      clear hq hqk hN
      go_wp2
      go_loop [6, 7] (fun vs vi => ∃ (i : Nat) (S : Int), i ≤ N ∧ vi = .int .i64 i ∧ vs = .int .i64 S ∧ Hid (S = pmV (fun i => runV ds i k) i) ∧ 0 ≤ S ∧ S ≤ 41943040000) (fun _ vi => N - (intOf vi).toNat)
      case atStart => exact ⟨0, 0, Nat.zero_le _, rfl, rfl, rfl, by omega, by omega⟩
      case round =>
        obtain ⟨i, S, hi, rfl, rfl, hS, s0, s1⟩ := hrel
        by_cases hik : (i : Int) + (k : Int) ≤ (n : Int)
        · have rb := RB.out i k (by rw [HL.out]; omega)
          have rb0 := RB.out 0 k (by rw [HL.out]; omega)
          have ps := pmV_step (F := fun i => runV ds i k) (i := i) rb.1 rb0.1
          rw [← hS.out] at ps
          have RC := Lib.hid (RUN.out i k wo NS.out.i (by omega) (by omega))
          have PI : Hid (i = 0 → pmV (fun i => runV ds i k) (i + 1) = runV ds i k) := Lib.hid (fun h => by rw [h]; rfl)
          have PS : Hid (pmV (fun i => runV ds i k) (i + 1) = if S < runV ds i k then runV ds i k else S) := Lib.hid ps
          generalize runV ds i k = D at *
          obtain ⟨D0, D1⟩ := rb
          clear ps rb0
          by_cases hi0 : i = 0
          · have PI1 := Lib.hid (PI.out hi0).symm
            subst hi0
            clear PS PI
            go_wp2_with fail
            refine (RC.out).mono ?_
            rintro e w5 ⟨rfl, rfl⟩
            go_wp2
            go_round
            case rel => exact ⟨1, D, by omega, by go_num, rfl, PI1, by omega, by omega⟩
            case measure => simp [intOf]; omega
          · have hiz : ((i : Int) == 0) = false := by simp; omega
            clear PI
            by_cases hSD : S < D
            · have PS1 : Hid (D = pmV (fun i => runV ds i k) (i + 1)) := Lib.hid (by rw [PS.out, if_pos hSD])
              clear PS
              go_wp2_with fail
              refine (RC.out).mono ?_
              rintro e w5 ⟨rfl, rfl⟩
              go_wp2_with fail
              refine (RC.out).mono ?_
              rintro e w5 ⟨rfl, rfl⟩
              go_wp2
              go_round
              case rel => exact ⟨i + 1, D, by omega, by go_num, rfl, PS1, by omega, by omega⟩
              case measure => simp [intOf]; omega
            · have PS1 : Hid (S = pmV (fun i => runV ds i k) (i + 1)) := Lib.hid (by rw [PS.out, if_neg hSD])
              clear PS
              go_wp2_with fail
              refine (RC.out).mono ?_
              rintro e w5 ⟨rfl, rfl⟩
              go_wp2
              go_round
              case rel => exact ⟨i + 1, S, by omega, by go_num, rfl, PS1, by omega, by omega⟩
              case measure => simp [intOf]; omega
        · obtain rfl : N = i := by omega
          have HS : Hid (S = mostN ds n k) := Lib.hid (by rw [hS.out, ← HNN.out, HMN.out]; rfl)
          have NSd := NS
          have NS2 := Lib.hid (NSd.out.below ((Below.refl wo.heap.size wo).alloc (Nat.le_refl _) (.cells (madeCells #[.bool false] L) 4)))
          have BR := Lib.hid (BRow.made wo L)
          clear hS
          go_wp2
          go_loopw [9, 10] (fun vs vi wx => ∃ (i : Nat) (s : Bool), i ≤ N ∧ vi = .int .i64 i ∧ vs = .bool s ∧ Hid (s = anyTo (goodN ds n k) i) ∧ NrW w wx A n c ds u4 m ∧ BRow wx wo.heap.size L (nxF (goodN ds n k) i)) (fun _ vi _ => N - (intOf vi).toNat)
          case atStart => exact ⟨0, false, Nat.zero_le _, rfl, rfl, rfl, NS2.out, BR.out.congr (fun j _ => by simp [nxF])⟩
          case round =>
            clear NS2 BR NS
            obtain ⟨i, s, hi, rfl, rfl, hs, hns, hbr⟩ := hrel
            generalize wr = wq at *
            have NS := Lib.hid hns
            have BR := Lib.hid hbr
            clear hns hbr
            by_cases hik : (i : Int) + (k : Int) ≤ (n : Int)
            · have rb := RB.out i k (by rw [HL.out]; omega)
              have RC := Lib.hid (RUN.out i k wq NS.out.i (by omega) (by omega))
              have G1 : Hid (m = 0 → goodN ds n k i = decide (runV ds i k = S)) := Lib.hid (fun h => by rw [hkm.out, h, goodN_one, HS.out, hkm.out, h])
              have G2 : Hid (0 < m → goodN ds n k i = (decide (runV ds i k = S) && (goodN ds n m i || goodN ds n m (i + 1)))) := Lib.hid (fun h => by rw [hkm.out, goodN_succ h, HS.out, hkm.out])
              have NX := Lib.hid (fun t => nxF_step (goodN ds n k) i t)
              have ANY : Hid (anyTo (goodN ds n k) (i + 1) = (s || goodN ds n k i)) := Lib.hid (by rw [anyTo, hs.out])
              generalize runV ds i k = D at *
              obtain ⟨D0, D1⟩ := rb
              have bc := BR.out.cell i (by omega)
              have bf := BR.out.free i
              have i0 : (0 : Int) ≤ (i : Int) := by omega
              have iL : (i : Int) < (L : Int) := by omega
              generalize hG : goodN ds n k i = J at *
              have NB : Hid (∀ W, NrW w W A n c ds u4 m → BRow W wo.heap.size L (nxF (goodN ds n k) i) → NrW w (W.setCell ⟨wo.heap.size, i, none⟩ (.bool J)) A n c ds u4 m ∧ BRow (W.setCell ⟨wo.heap.size, i, none⟩ (.bool J)) wo.heap.size L (nxF (goodN ds n k) (i + 1))) := Lib.hid (fun W h1 h2 => ⟨h1.put I0.out NSd.out i _, (h2.set i J).congr (fun t _ => NX.out t)⟩)
              have JX : Hid (nxF (goodN ds n k) (i + 1) i = J) := Lib.hid (by unfold nxF; rw [if_pos (by omega)]; exact hG)
              have mixed : Try.prog.follows Departure.mixedOrders = true := by kernel_rfl
              clear hG
              go_upto_region 17 with fail
              go_cut [] (fun wx => NrW w wx A n c ds u4 m ∧ BRow wx wo.heap.size L (nxF (goodN ds n k) (i + 1)))
              case first =>
                as_aux_lemma =>
                by_cases hDS : D = S
                · have t1 : (D == S) = true := by simp [hDS]
                  by_cases hm0 : m = 0
                  · have hJ : J = true := by rw [G1.out hm0, decide_eq_true hDS]
                    subst hJ
                    have hk1 : ((k : Int) == 1) = true := by have := hkm.out; simp; omega
                    clear G1 G2 hDS
                    go_wp2_with fail
                    refine (RC.out).mono ?_
                    rintro e w5 ⟨rfl, rfl⟩
                    go_wp2_with fail
                    go_meet
                    exact NB.out wq NS.out BR.out
                  · have hk1 : ((k : Int) == 1) = false := by have := hkm.out; simp; omega
                    have g2 := G2.out (by omega)
                    rw [decide_eq_true hDS, Bool.true_and] at g2
                    obtain ⟨gc, L', e1, e2, e3, r⟩ := NS.out.ch
                    have hLL' : L' = L := by rw [e2]; exact HLL.out
                    rw [hLL'] at e1 r
                    have hb1 : i < n - m + 1 := by have := HQK.out; have := HNN.out; have := hkm.out; omega
                    have hb2 : i + 1 < n - m + 1 := by have := HQK.out; have := HNN.out; have := hkm.out; omega
                    obtain ⟨i1, hi1⟩ : ∃ i1, i + 1 = i1 := ⟨_, rfl⟩
                    have ei1 : (i : Int) + 1 = (i1 : Int) := by omega
                    have cb1 := r.cell i (by omega)
                    have cb2 := r.cell (i + 1) (by omega)
                    unfold nxF at cb1 cb2
                    rw [if_pos hb1] at cb1
                    rw [if_pos hb2, hi1] at cb2
                    rw [hi1] at g2
                    have z1 : (0 : Int) ≤ (i1 : Int) := by omega
                    have z2 : (i1 : Int) < (L : Int) := by omega
                    generalize goodN ds n m i = b1 at *
                    generalize goodN ds n m i1 = b2 at *
                    subst e1
                    clear G1 G2 hDS r e2 hi1 hLL' hb1 hb2
                    cases b1
                    · rw [Bool.false_or] at g2
                      subst g2
                      cases J
                      · go_wp2_with fail
                        refine (RC.out).mono ?_
                        rintro e w5 ⟨rfl, rfl⟩
                        go_wp2_with fail
                        go_meet
                        exact NB.out wq NS.out BR.out
                      · go_wp2_with fail
                        refine (RC.out).mono ?_
                        rintro e w5 ⟨rfl, rfl⟩
                        go_wp2_with fail
                        go_meet
                        exact NB.out wq NS.out BR.out
                    · rw [Bool.true_or] at g2
                      subst g2
                      go_wp2_with fail
                      refine (RC.out).mono ?_
                      rintro e w5 ⟨rfl, rfl⟩
                      go_wp2_with fail
                      go_meet
                      exact NB.out wq NS.out BR.out
                · have t1 : (D == S) = false := by simp [hDS]
                  have hJ : J = false := by
                    by_cases hm0 : m = 0
                    · rw [G1.out hm0, decide_eq_false hDS]
                    · rw [G2.out (by omega), decide_eq_false hDS, Bool.false_and]
                  subst hJ
                  clear G1 G2 hDS
                  go_wp2_with fail
                  refine (RC.out).mono ?_
                  rintro e w5 ⟨rfl, rfl⟩
                  go_wp2_with fail
                  go_meet
                  exact NB.out wq NS.out BR.out
              case rest =>
                obtain ⟨hns, hbr⟩ := hcut
                rename World => wx
                have NS2 := Lib.hid hns
                have BR2 := Lib.hid hbr
                have cj := hbr.cell i (by omega)
                rw [JX.out] at cj
                clear hns hbr NS BR NB G1 G2 NX bc bf JX
                cases s
                · rw [Bool.false_or] at ANY
                  go_wp2
                  go_roundw
                  case rel => exact ⟨i + 1, J, by omega, by go_num, rfl, Lib.hid ANY.out.symm, NS2.out, BR2.out⟩
                  case measure => simp [intOf]; omega
                · rw [Bool.true_or] at ANY
                  go_wp2
                  go_roundw
                  case rel => exact ⟨i + 1, true, by omega, by go_num, rfl, Lib.hid ANY.out.symm, NS2.out, BR2.out⟩
                  case measure => simp [intOf]; omega
            · obtain rfl : N = i := by omega
              have HNK : Hid (nestTo ds n k = s) := Lib.hid (by
                have h1 := HQK.out
                have h2 := HNN.out
                have h3 := hkm.out
                rw [h3, nestTo, hto.out, Bool.true_and, ← h3, show n - m = N by omega]
                exact hs.out.symm)
              have ch : NrW w wq A n c ds (.slice (some ⟨wo.heap.size, 0, none⟩) L L) k := ⟨NS.out.i, ⟨wo.heap.size, L, rfl, HLL.out.symm, NSd.out.bel.size, by have h1 := HQK.out; have h2 := HNN.out; rw [show n - k + 1 = N by omega]; exact BR.out⟩, NS.out.bel⟩
              have CH := Lib.hid ch
              have BEL := Lib.hid NS.out.bel
              clear ch NS BR hs NSd
              cases s
              · have HF : Hid (nestV ds = false) := Lib.hid (by
                  rw [NV.out]
                  cases hq : nestTo ds n n
                  · rfl
                  · have := nestTo_mono (show k ≤ n by omega) hq
                    rw [HNK.out] at this
                    cases this)
                clear HNK CH
                go_wp2
                go_ret
                exact ⟨ret_b HF.out.symm, BEL.out⟩
              · go_wp2
                go_roundw
                case rel => exact ⟨k + 1, k, by go_num, rfl, by omega, by omega, CH.out, HNK⟩
                case measure => simp [intOf]; omega
    · have HF : Hid (nestV ds = true) := Lib.hid (by
        rw [NV.out]
        have h1 := hkm.out
        have h2 : m = n := by omega
        rw [← h2]; rw [← h2] at hto; exact hto.out)
      have BEL := Lib.hid NS.out.bel
      clear NS
      go_wp2
      go_ret
      exact ⟨ret_b HF.out.symm, BEL.out⟩
end Go.Proofs.Ytfhikdgdckfalaa
