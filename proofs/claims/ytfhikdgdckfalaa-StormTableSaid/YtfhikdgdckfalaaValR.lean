/- Valid of the reference: an intensity table. -/
import Derived.Test.YtfhikdgdckfalaaMB05
import Derived.Test.YtfhikdgdckfalaaAscR
namespace Go.Proofs.Ytfhikdgdckfalaa
open Go.RowKit
set_option linter.unusedVariables false

set_option maxRecDepth 100000 in
set_option maxHeartbeats 8000000 in
theorem ValidR_calls {A0 A1 A2 : Option Addr} {n0 c0 n1 c1 n2 c2 : Nat} {ds ps : List Int} {rows : List (List Int)} (w : World) (h0 : Ints w A0 n0 c0 ds) (h1 : Ints w A1 n1 c1 ps) (h2 : Tab w A2 n2 c2 rows) :
    Calls Try.prog 57 #[tabA A0 n0 c0 A1 n1 c1 A2 n2 c2] w (ValR ds ps rows w) := by
  obtain ⟨W0, hW0⟩ : ∃ W0, w.alloc (tabO A0 n0 c0 A1 n1 c1 A2 n2 c2) = W0 := ⟨_, rfl⟩
  have hb0 : Below w.heap.size w W0 := by rw [← hW0]; exact (Below.refl _ _).alloc (Nat.le_refl _) _
  have hb1 : Below (w.heap.size + 1) W0 W0 := Below.refl _ _
  have hs0 : W0.heap.size = w.heap.size + 1 := by rw [← hW0]; simp
  have X0 := Lib.hid (show HBox W0 w.heap.size (.slice A0 n0 c0) (.slice A1 n1 c1) (.slice A2 n2 c2) by rw [← hW0]; exact HBox.made _ _ _ _ _)
  have F1 := Lib.hid (ascR_calls 2592000 W0 (h0.below hb0) (by omega))
  have F2 := Lib.hid (fun W (hb : Below W0.heap.size W0 W) => ascR_calls 10000 W ((h1.below hb0).below hb) (by omega))
  have T1 := Lib.hid (h2.below hb0)
  have B1 := Lib.hid hb0
  have S0 := Lib.hid hs0
  have L0 := Lib.hid h0.len
  have L1 := Lib.hid h1.len
  have L2 := Lib.hid h2.len
  have q0 := h0.few
  have q1 := h1.few
  have q2 := h2.few
  obtain ⟨k0, k1, k2, kl⟩ : W0.cell? ⟨w.heap.size, 0, none⟩ = some (.slice A0 n0 c0) ∧ W0.cell? ⟨w.heap.size, 1, none⟩ = some (.slice A1 n1 c1) ∧ W0.cell? ⟨w.heap.size, 2, none⟩ = some (.slice A2 n2 c2) ∧ w.heap.size < W0.heap.size := ⟨X0.out.c0, X0.out.c1, X0.out.c2, X0.out.lt⟩
  have hcap2 := h2.cap
  have hmax2 := h2.max
  clear h0 h1 h2 hb0 hb1 hs0
  have BAD := Lib.hid (fun W (b : Below w.heap.size w W) (h : ¬ VOk ds ps rows) => (⟨false, rfl, b, by simp, fun a => absurd a h⟩ : ValR ds ps rows w (.returned (.bool false)) W))
  go_enter Try.func57, Try.ntmps57
  by_cases a1 : (n0 : Int) < 1
  · go_wp2
    go_ret
    exact BAD.out _ B1.out fun a => by have := a.1.2.2.1; rw [L0.out] at this; omega
  by_cases a2 : 100 < (n0 : Int)
  · go_wp2
    go_ret
    exact BAD.out _ B1.out fun a => by have := a.1.2.2.2; rw [L0.out] at this; omega
  by_cases a3 : (n1 : Int) < 1
  · go_wp2
    go_ret
    exact BAD.out _ B1.out fun a => by have := a.2.1.2.2.1; rw [L1.out] at this; omega
  by_cases a4 : 20 < (n1 : Int)
  · go_wp2
    go_ret
    exact BAD.out _ B1.out fun a => by have := a.2.1.2.2.2; rw [L1.out] at this; omega
  by_cases hn : n2 = n1
  case neg =>
    have hn' : ((n2 : Int) != (n1 : Int)) = true := by simp; omega
    have hn2 : ((n2 : Int) == (n1 : Int)) = false := by simp; omega
    go_wp2
    go_ret
    exact BAD.out _ B1.out fun a => by have := a.2.2.1; rw [L2.out, L1.out] at this; omega
  subst hn
  go_wp2_with fail
  refine (F1.out).mono ?_
  rintro e W1 ⟨b1, rfl, hb1, hv1⟩
  have V1 := Lib.hid hv1
  have hb2 := B1.out.trans (hb1.mono (by omega))
  have X1 := Lib.hid (X0.out.below hb1 (by omega))
  obtain ⟨m0, m1, m2, ml⟩ : W1.cell? ⟨w.heap.size, 0, none⟩ = some (.slice A0 n0 c0) ∧ W1.cell? ⟨w.heap.size, 1, none⟩ = some (.slice A1 n2 c1) ∧ W1.cell? ⟨w.heap.size, 2, none⟩ = some (.slice A2 n2 c2) ∧ w.heap.size < W1.heap.size := ⟨X1.out.c0, X1.out.c1, X1.out.c2, X1.out.lt⟩
  have B2 := Lib.hid hb1
  clear hv1 hb1 k0 k1 k2 kl
  have B3 := Lib.hid hb2
  clear hb2
  cases b1
  · go_wp2
    go_ret
    exact BAD.out _ B3.out fun a => by have := V1.out.2 ⟨a.1.1, a.1.2.1⟩; cases this
  go_wp2_with fail
  refine (F2.out _ B2.out).mono ?_
  rintro e W2 ⟨b2, rfl, hb2, hv2⟩
  have V2 := Lib.hid hv2
  have hb3 := B2.out.trans (hb2.mono (by have := B2.out.size; omega))
  have B5 := Lib.hid (B1.out.trans (hb3.mono (by have := S0.out; omega)))
  have X2 := Lib.hid (X0.out.below hb3 (by have := S0.out; omega))
  have T2 := Lib.hid (T1.out.below hb3)
  obtain ⟨k0, k1, k2, kl⟩ : W2.cell? ⟨w.heap.size, 0, none⟩ = some (.slice A0 n0 c0) ∧ W2.cell? ⟨w.heap.size, 1, none⟩ = some (.slice A1 n2 c1) ∧ W2.cell? ⟨w.heap.size, 2, none⟩ = some (.slice A2 n2 c2) ∧ w.heap.size < W2.heap.size := ⟨X2.out.c0, X2.out.c1, X2.out.c2, X2.out.lt⟩
  clear hv2 hb2 hb3 m0 m1 m2 ml
  cases b2
  · go_wp2
    go_ret
    exact BAD.out _ B5.out fun a => by have := V2.out.2 ⟨a.2.1.1, a.2.1.2.1⟩; cases this
  clear BAD
  have BAD := Lib.hid (fun W (b : Below w.heap.size w W) (h : ¬ VOk ds ps rows) => (⟨false, rfl, b, by simp, fun a => absurd a h⟩ : ValR ds ps rows w (.returned (.bool false)) W))
  have HD := Lib.hid (fun (d : Nat) => below_drewN B5.out d)
  go_wp2
  go_loopw [3] (fun i wr => ∃ k : Nat, k ≤ n2 ∧ i = .int .i64 k ∧ (∀ j, j < k → RowOk ds rows j) ∧ ∃ d, wr = W2.drewN d) (fun i _ => n2 - (intOf i).toNat)
  case atStart => exact ⟨0, Nat.zero_le _, rfl, fun j hj => absurd hj (by omega), 0, rfl⟩
  case round =>
    obtain ⟨k, hk, rfl, hno, d, rfl⟩ := hrel
    have HN := Lib.hid hno
    clear hno
    by_cases hlt : k < n2
    · obtain ⟨ad, A', n', c', rfl, hl, hc, hI⟩ := T2.out.at_ hlt
      have II := Lib.hid hI
      have LI := Lib.hid hI.len
      have cI := hI.cap
      have fI := hI.few
      have xI := hI.max
      clear hI
      by_cases hn0 : n' = n0
      · subst hn0
        go_wp2
        go_loopw [5] (fun i wr => ∃ m : Nat, m ≤ n' ∧ i = .int .i64 m ∧ (∀ j, j < m → CellOk rows k j) ∧ ∃ d, wr = W2.drewN d) (fun i _ => n' - (intOf i).toNat)
        case atStart => exact ⟨0, Nat.zero_le _, rfl, fun j hj => absurd hj (by omega), d, rfl⟩
        case round =>
          obtain ⟨m, hmn, rfl, hso, d, rfl⟩ := hrel
          have HS := Lib.hid hso
          clear hso
          by_cases hm : m < n'
          · obtain ⟨ax, rfl, hlx, hcx⟩ := II.out.at_ hm
            obtain ⟨x, hx⟩ : ∃ x, el (tl rows k) m = x := ⟨_, rfl⟩
            rw [hx] at hcx
            have HX := Lib.hid hx
            clear hx
            have r0 : (0 : Int) ≤ (m : Int) := by omega
            have r1 : (m : Int) < (n' : Int) := by omega
            have r2 : (0 : Int) ≤ (k : Int) := by omega
            have r3 : (k : Int) < (n2 : Int) := by omega
            by_cases h1 : x < 0
            · have g1 : decide (x < 0) = true := decide_eq_true h1
              go_wp2
              go_quiet (fail)
              go_wp2
              go_ret
              exact BAD.out _ (below_drewN (HD.out _) _) fun a => by have := And.left <| And.left <| ((a.2.2.2 k (by rw [L2.out]; exact hlt)).2 m (by rw [L0.out]; exact hm)); rw [HX.out] at this; omega
            have g1 : decide (x < 0) = false := decide_eq_false h1
            by_cases h2 : 4194304 < x
            · have g2 : decide (4194304 < x) = true := decide_eq_true h2
              go_wp2
              go_quiet (fail)
              go_wp2
              go_ret
              exact BAD.out _ (below_drewN (HD.out _) _) fun a => by have := And.right <| And.left <| ((a.2.2.2 k (by rw [L2.out]; exact hlt)).2 m (by rw [L0.out]; exact hm)); rw [HX.out] at this; omega
            have g2 : decide (4194304 < x) = false := decide_eq_false h2
            by_cases h3 : m = 0
            · subst h3
              have hcx0 : W2.cell? ax = some (.int .i64 x) := hcx
              have HM := Lib.hid (show ∀ i, (0 : Nat) = i + 1 → el (tl rows k) i ≤ el (tl rows k) 0 from fun i hi => by omega)
              by_cases hk0 : k = 0
              · subst hk0
                go_wp2
                go_quiet (fail)
                go_wp2
                go_roundw
                case rel => (repeat apply Exists.intro); exact ⟨⟨1, by omega, by go_num, fun j hj => by
                  by_cases hjm : j = 0
                  · subst hjm; exact ⟨⟨by rw [HX.out]; omega, by rw [HX.out]; omega⟩, HM.out, fun i hi => by omega⟩
                  · exact HS.out j (by omega), _, rfl⟩, rfl⟩
                case measure => simp [intOf]; try omega
              · obtain ⟨t, rfl⟩ : ∃ t, k = t + 1 := ⟨k - 1, by omega⟩
                obtain ⟨ad2, A2', n2', c2', eA, hl2, hc2, hI2⟩ := T2.out.at_ (k := t) (by omega)
                obtain rfl : ad = ad2 := by injection eA
                have hlr := (HN.out t (by omega)).1
                have hl2' := hI2.len
                obtain rfl : n2' = n' := by rw [← hl2', hlr, L0.out]
                obtain ⟨ay, rfl, hly, hcy⟩ := hI2.at_ (k := 0) hm
                obtain ⟨y, hy⟩ : ∃ y, el (tl rows t) 0 = y := ⟨_, rfl⟩
                rw [hy] at hcy
                have hcy0 : W2.cell? ay = some (.int .i64 y) := hcy
                have hcc : W2.cell? ⟨ad.block, ad.off + (t + 1), none⟩ = some (.slice (some ax) n2' c') := hc
                have HY := Lib.hid hy
                have cI2 := hI2.cap
                have xI2 := hI2.max
                have e3 : IntKind.i64.wrap ((t : Int) + 1 - 1) = (t : Int) := by rw [show (t : Int) + 1 - 1 = t by omega]; exact IntWalk.i64_in _ (by omega)
                have g3 : decide ((0 : Int) < (t : Int) + 1) = true := decide_eq_true (by omega)
                have r4 : (0 : Int) ≤ (t : Int) := by omega
                have r5 : (t : Int) < (n2 : Int) := by omega
                clear hy eA hI2 hlr hl2'
                by_cases h6 : x < y
                · have g4 : decide (x < y) = true := decide_eq_true h6
                  go_wp2
                  go_quiet (fail)
                  go_wp2
                  go_ret
                  exact BAD.out _ (below_drewN (HD.out _) _) fun a => by have := ((a.2.2.2 (t + 1) (by rw [L2.out]; exact hlt)).2 0 (by rw [L0.out]; exact hm)).2.2 t rfl; rw [HX.out, HY.out] at this; omega
                · have g4 : decide (x < y) = false := decide_eq_false h6
                  go_wp2
                  go_quiet (fail)
                  go_wp2
                  go_roundw
                  case rel => (repeat apply Exists.intro); exact ⟨⟨1, by omega, by go_num, fun j hj => by
                    by_cases hjm : j = 0
                    · subst hjm; exact ⟨⟨by rw [HX.out]; omega, by rw [HX.out]; omega⟩, HM.out, fun i hi => by (obtain rfl : t = i := (by omega)); (rw [HX.out, HY.out]); omega⟩
                    · exact HS.out j (by omega), _, rfl⟩, rfl⟩
                  case measure => simp [intOf]; try omega
            · obtain ⟨s, rfl⟩ : ∃ s, m = s + 1 := ⟨m - 1, by omega⟩
              obtain ⟨ax', eX, hlx', hcz⟩ := II.out.at_ (k := s) (by omega)
              obtain rfl : ax = ax' := by injection eX
              obtain ⟨z, hz⟩ : ∃ z, el (tl rows k) s = z := ⟨_, rfl⟩
              rw [hz] at hcz
              have HZ := Lib.hid hz
              have hcx0 : W2.cell? ⟨ax.block, ax.off + (s + 1), none⟩ = some (.int .i64 x) := hcx
              have e2 : IntKind.i64.wrap ((s : Int) + 1 - 1) = (s : Int) := by rw [show (s : Int) + 1 - 1 = s by omega]; exact IntWalk.i64_in _ (by omega)
              have g5 : decide ((0 : Int) < (s : Int) + 1) = true := decide_eq_true (by omega)
              have r6 : (0 : Int) ≤ (s : Int) := by omega
              have r7 : (s : Int) < (n' : Int) := by omega
              clear hz eX
              by_cases h5 : x < z
              · have g6 : decide (x < z) = true := decide_eq_true h5
                go_wp2
                go_quiet (fail)
                go_wp2
                go_ret
                exact BAD.out _ (below_drewN (HD.out _) _) fun a => by have := ((a.2.2.2 k (by rw [L2.out]; exact hlt)).2 (s + 1) (by rw [L0.out]; exact hm)).2.1 s rfl; rw [HX.out, HZ.out] at this; omega
              have g6 : decide (x < z) = false := decide_eq_false h5
              have HM := Lib.hid (show ∀ i, s + 1 = i + 1 → el (tl rows k) i ≤ el (tl rows k) (s + 1) from fun i hi => by (obtain rfl : s = i := (by omega)); (rw [HX.out, HZ.out]); omega)
              by_cases hk0 : k = 0
              · subst hk0
                go_wp2
                go_quiet (fail)
                go_wp2
                go_roundw
                case rel => (repeat apply Exists.intro); exact ⟨⟨s + 1 + 1, by omega, by go_num, fun j hj => by
                  by_cases hjm : j = s + 1
                  · subst hjm; exact ⟨⟨by rw [HX.out]; omega, by rw [HX.out]; omega⟩, HM.out, fun i hi => by omega⟩
                  · exact HS.out j (by omega), _, rfl⟩, rfl⟩
                case measure => simp [intOf]; try omega
              · obtain ⟨t, rfl⟩ : ∃ t, k = t + 1 := ⟨k - 1, by omega⟩
                obtain ⟨ad2, A2', n2', c2', eA, hl2, hc2, hI2⟩ := T2.out.at_ (k := t) (by omega)
                obtain rfl : ad = ad2 := by injection eA
                have hlr := (HN.out t (by omega)).1
                have hl2' := hI2.len
                obtain rfl : n2' = n' := by rw [← hl2', hlr, L0.out]
                obtain ⟨ay, rfl, hly, hcy⟩ := hI2.at_ (k := s + 1) hm
                obtain ⟨y, hy⟩ : ∃ y, el (tl rows t) (s + 1) = y := ⟨_, rfl⟩
                rw [hy] at hcy
                have hcy0 : W2.cell? ⟨ay.block, ay.off + (s + 1), none⟩ = some (.int .i64 y) := hcy
                have hcc : W2.cell? ⟨ad.block, ad.off + (t + 1), none⟩ = some (.slice (some ax) n2' c') := hc
                have HY := Lib.hid hy
                have cI2 := hI2.cap
                have xI2 := hI2.max
                have e3 : IntKind.i64.wrap ((t : Int) + 1 - 1) = (t : Int) := by rw [show (t : Int) + 1 - 1 = t by omega]; exact IntWalk.i64_in _ (by omega)
                have g3 : decide ((0 : Int) < (t : Int) + 1) = true := decide_eq_true (by omega)
                have r4 : (0 : Int) ≤ (t : Int) := by omega
                have r5 : (t : Int) < (n2 : Int) := by omega
                clear hy eA hI2 hlr hl2'
                by_cases h6 : x < y
                · have g4 : decide (x < y) = true := decide_eq_true h6
                  go_wp2
                  go_quiet (fail)
                  go_wp2
                  go_ret
                  exact BAD.out _ (below_drewN (HD.out _) _) fun a => by have := ((a.2.2.2 (t + 1) (by rw [L2.out]; exact hlt)).2 (s + 1) (by rw [L0.out]; exact hm)).2.2 t rfl; rw [HX.out, HY.out] at this; omega
                · have g4 : decide (x < y) = false := decide_eq_false h6
                  go_wp2
                  go_quiet (fail)
                  go_wp2
                  go_roundw
                  case rel => (repeat apply Exists.intro); exact ⟨⟨s + 1 + 1, by omega, by go_num, fun j hj => by
                    by_cases hjm : j = s + 1
                    · subst hjm; exact ⟨⟨by rw [HX.out]; omega, by rw [HX.out]; omega⟩, HM.out, fun i hi => by (obtain rfl : t = i := (by omega)); (rw [HX.out, HY.out]); omega⟩
                    · exact HS.out j (by omega), _, rfl⟩, rfl⟩
                  case measure => simp [intOf]; try omega
          · have hmn' : m = n' := by omega
            subst hmn'
            go_wp2
            go_roundw
            case rel => exact ⟨k + 1, by omega, by go_num, fun j hj => by
              by_cases hjk : j = k
              · subst hjk; exact ⟨by rw [LI.out, L0.out], fun i hi => HS.out i (by rw [L0.out] at hi; exact hi)⟩
              · exact HN.out j (by omega), _, rfl⟩
            case measure => simp [intOf]; try omega
      · have hn' : ((n' : Int) != (n0 : Int)) = true := by simp; omega
        have hn2 : ((n' : Int) == (n0 : Int)) = false := by simp; omega
        go_wp2
        go_ret
        exact BAD.out _ (HD.out _) fun a => by have := (a.2.2.2 k (by rw [L2.out]; exact hlt)).1; rw [LI.out, L0.out] at this; omega
    · have hkn : k = n2 := by omega
      subst hkn
      go_wp2
      go_ret
      exact ⟨true, rfl, HD.out _, fun _ => ⟨⟨(V1.out.1 (by simp)).1, (V1.out.1 (by simp)).2, by rw [L0.out]; omega, by rw [L0.out]; omega⟩, ⟨(V2.out.1 (by simp)).1, (V2.out.1 (by simp)).2, by rw [L1.out]; omega, by rw [L1.out]; omega⟩, by rw [L2.out, L1.out], fun j hj => HN.out j (by rw [L2.out] at hj; exact hj)⟩, fun _ => rfl⟩
end Go.Proofs.Ytfhikdgdckfalaa
