/- The flow for numbers of spans is in the span: the plain law. -/
import Derived.Test.YtfalmbcnbomaoaaWD
import Derived.Test.YtfalmbcnbomaoaaW9
namespace Go.Proofs.Ytfalmbcnbomaoaa
open Go.Proofs.Ytfalmbcnbomaoaa.DivLaw Go.Proofs.Ytfalmbcnbomaoaa.Open Go.RowKit
set_option linter.unusedVariables false

theorem levelB_parts {n : Int} (h : levelB n = true) : -4194304 ≤ n ∧ n ≤ 4194304 := by
  unfold levelB at h; simpa using h
/-- What a span of flows says of a flow between. -/
def Mid (S : (Int × Int) × Int) (q : Int × Int) : Prop := S.2 = 0 → q.2 = 0 ∧ S.1.1 ≤ q.1 ∧ q.1 ≤ S.1.2
theorem ends_ok {x y : Int × Int} (h : (EndsV x y).2 = 0) : x.2 = 0 ∧ y.2 = 0 ∧ EndsV x y = ((x.1, y.1), 0) := by
  unfold EndsV at *
  by_cases h1 : x.2 = 0
  · rw [if_neg (not_not_intro h1)] at h ⊢
    by_cases h2 : y.2 = 0
    · rw [if_neg (not_not_intro h2)]; exact ⟨h1, h2, rfl⟩
    · rw [if_pos h2] at h; exact absurd h h2
  · rw [if_pos h1] at h; exact absurd h h1
theorem mid_of {v : Bool} {x y q : Int × Int} (h : v = true → x.2 = 0 → y.2 = 0 → q.2 = 0 ∧ x.1 ≤ q.1 ∧ q.1 ≤ y.1) : Mid (SpanOf v x y) q := by
  unfold Mid SpanOf
  intro h0
  cases v
  · rw [if_neg (by decide)] at h0; simp at h0
  · rw [if_pos rfl] at h0 ⊢
    obtain ⟨h1, h2, h3⟩ := ends_ok h0
    rw [h3]
    exact h rfl h1 h2
theorem mid_flow {a b c : Int} (h1 : a ≤ b) (h2 : b ≤ c) (k1 : (flowV a).2 = 0) (k2 : (flowV c).2 = 0) : (flowV b).2 = 0 ∧ (flowV a).1 ≤ (flowV b).1 ∧ (flowV b).1 ≤ (flowV c).1 := by
  have hc : ¬ 1099511627776 < c := fun h => by rw [flowV_no h] at k2; simp at k2
  rw [flowV_ok hc, flowV_ok (show ¬ 1099511627776 < b by omega), flowV_ok (show ¬ 1099511627776 < a by omega)]
  exact ⟨rfl, h1, h2⟩
theorem weir_mid (b h0 h1 h : Int) (k0 : h0 ≤ h) (k1 : h ≤ h1) : Mid (SpanOf (validB h0 h1) (WeirV b h0) (WeirV b h1)) (WeirV b h) := by
  refine mid_of fun _ a1 a2 => ?_
  have c0 : 1 ≤ b ∧ b ≤ 1048576 ∧ 0 ≤ h0 ∧ h0 ≤ 1048576 := by
    by_cases c : 1 ≤ b ∧ b ≤ 1048576 ∧ 0 ≤ h0 ∧ h0 ≤ 1048576
    · exact c
    · unfold WeirV at a1; rw [if_neg c] at a1; simp at a1
  have c1 : 1 ≤ b ∧ b ≤ 1048576 ∧ 0 ≤ h1 ∧ h1 ≤ 1048576 := by
    by_cases c : 1 ≤ b ∧ b ≤ 1048576 ∧ 0 ≤ h1 ∧ h1 ≤ 1048576
    · exact c
    · unfold WeirV at a2; rw [if_neg c] at a2; simp at a2
  rw [WeirV_in c0.1 c0.2.1 c0.2.2.1 c0.2.2.2] at a1 ⊢
  rw [WeirV_in c1.1 c1.2.1 c1.2.2.1 c1.2.2.2] at a2 ⊢
  rw [WeirV_in c0.1 c0.2.1 (show 0 ≤ h by omega) (by omega)]
  exact mid_flow (wq_mono _ _ _ _ c0.2.1 (by omega) (Int.le_refl _) k0) (wq_mono _ _ _ _ c0.2.1 (by omega) (Int.le_refl _) k1) a1 a2
theorem mid_capW {wd h0 h1 h2 : Int} (hw : wd ≤ 1048576) (k1 : h0 ≤ h1) (k2 : h1 ≤ h2) (a1 : (capW wd h0).2 = 0) (a2 : (capW wd h2).2 = 0) : (capW wd h1).2 = 0 ∧ (capW wd h0).1 ≤ (capW wd h1).1 ∧ (capW wd h1).1 ≤ (capW wd h2).1 := by
  have hc : ¬ 1048576 < h2 := fun h => by unfold capW at a2; rw [if_pos h] at a2; simp at a2
  unfold capW at *
  rw [if_neg hc] at a2 ⊢
  rw [if_neg (show ¬ 1048576 < h1 by omega)]
  rw [if_neg (show ¬ 1048576 < h0 by omega)] at a1 ⊢
  exact mid_flow (wq_mono _ _ _ _ hw (by omega) (Int.le_refl _) k1) (wq_mono _ _ _ _ hw (by omega) (Int.le_refl _) k2) a1 a2
theorem mid_capO {A0 A1 A2 h0 h1 h2 : Int} (hA : A2 ≤ 1073741824) (j1 : A0 ≤ A1) (j2 : A1 ≤ A2) (k1 : h0 ≤ h1) (k2 : h1 ≤ h2) (a1 : (capO A0 h0).2 = 0) (a2 : (capO A2 h2).2 = 0) : (capO A1 h1).2 = 0 ∧ (capO A0 h0).1 ≤ (capO A1 h1).1 ∧ (capO A1 h1).1 ≤ (capO A2 h2).1 := by
  have hc : ¬ 1048576 < h2 := fun h => by unfold capO at a2; rw [if_pos h] at a2; simp at a2
  unfold capO at *
  rw [if_neg hc] at a2 ⊢
  rw [if_neg (show ¬ 1048576 < h1 by omega)]
  rw [if_neg (show ¬ 1048576 < h0 by omega)] at a1 ⊢
  exact mid_flow (oq_mono _ _ _ _ (by omega) (by omega) j1 k1) (oq_mono _ _ _ _ hA (by omega) j2 k2) a1 a2
theorem over_levels {kd up wd a b : Int} (hw : isWeirB kd up wd = true) (h : (OverV kd up wd a b).2 = 0) : levelB a = true ∧ levelB b = true := by
  by_cases c : levelB a = true ∧ levelB b = true
  · exact c
  · unfold OverV at h; rw [if_pos hw, if_neg c] at h; simp at h
theorem over_mid (kd up wd u0 u1 d0 d1 a b : Int) (v : Bool) (ha0 : u0 ≤ a) (ha1 : a ≤ u1) (hb0 : d0 ≤ b) (hb1 : b ≤ d1) : Mid (SpanOf (isWeirB kd up wd && v) (OverV kd up wd u0 d1) (OverV kd up wd u1 d0)) (OverV kd up wd a b) := by
  refine mid_of fun hv a1 a2 => ?_
  rw [Bool.and_eq_true] at hv
  have l1 := over_levels hv.1 a1
  have l2 := over_levels hv.1 a2
  have p1 := levelB_parts l1.1
  have p2 := levelB_parts l1.2
  have p3 := levelB_parts l2.1
  have p4 := levelB_parts l2.2
  have hwd : wd ≤ 1048576 := by have := hv.1; unfold isWeirB at this; simp at this; omega
  rw [OverV_in hv.1 l1.1 l1.2] at a1 ⊢
  rw [OverV_in hv.1 l2.1 l2.2] at a2 ⊢
  rw [OverV_in hv.1 (levelB_of (by omega) (by omega)) (levelB_of (by omega) (by omega))]
  exact mid_capW hwd (by unfold headV; omega) (by unfold headV; omega) a1 a2
theorem gate_levels {kd up wd ht s a b : Int} (hg : isGateB kd up wd ht = true) (h : (GateV kd up wd ht s a b).2 = 0) : (0 ≤ s ∧ s ≤ 1000) ∧ levelB a = true ∧ levelB b = true := by
  by_cases c : (0 ≤ s ∧ s ≤ 1000) ∧ levelB a = true ∧ levelB b = true
  · exact c
  · unfold GateV at h; rw [if_pos hg, if_neg c] at h; simp at h
theorem gate_mid (kd up wd ht s0 s1 u0 u1 d0 d1 s a b : Int) (v : Bool) (hs0 : s0 ≤ s) (hs1 : s ≤ s1) (ha0 : u0 ≤ a) (ha1 : a ≤ u1) (hb0 : d0 ≤ b) (hb1 : b ≤ d1) : Mid (SpanOf (isGateB kd up wd ht && v) (GateV kd up wd ht s0 u0 d1) (GateV kd up wd ht s1 u1 d0)) (GateV kd up wd ht s a b) := by
  refine mid_of fun hv a1 a2 => ?_
  rw [Bool.and_eq_true] at hv
  have l1 := gate_levels hv.1 a1
  have l2 := gate_levels hv.1 a2
  have p1 := levelB_parts l1.2.1
  have p2 := levelB_parts l1.2.2
  have p3 := levelB_parts l2.2.1
  have p4 := levelB_parts l2.2.2
  have hwd : (1 ≤ wd ∧ wd ≤ 32768) ∧ 1 ≤ ht ∧ ht ≤ 32768 := by have := hv.1; unfold isGateB at this; simp at this; omega
  rw [GateV_in hv.1 l1.1.1 l1.1.2 l1.2.1 l1.2.2] at a1 ⊢
  rw [GateV_in hv.1 l2.1.1 l2.1.2 l2.2.1 l2.2.2] at a2 ⊢
  rw [GateV_in hv.1 (show 0 ≤ s by omega) (by omega) (levelB_of (by omega) (by omega)) (levelB_of (by omega) (by omega))]
  have e1 : headV up u0 d1 ≤ headV up a b := by unfold headV; omega
  have e2 : headV up a b ≤ headV up u1 d0 := by unfold headV; omega
  have e3 : gateA wd ht s1 (headV up u1 d0) ≤ 1073741824 := by
    unfold gateA
    have q1 : ht * s1 ≤ 32768 * 1000 := Int.mul_le_mul hwd.2.2 l2.1.2 l2.1.1 (by omega)
    have q2 : 0 ≤ headV up u1 d0 := by unfold headV; omega
    have q3 : min (ht * s1 / 1000) (headV up u1 d0) ≤ 32768 := by omega
    have q4 : 0 ≤ ht * s1 := Int.mul_nonneg (by omega) l2.1.1
    exact Int.le_trans (Int.mul_le_mul hwd.1.2 q3 (by omega) (by omega)) (by omega)
  exact mid_capO e3 (gateA_mono (by omega) (by omega) hs0 e1) (gateA_mono (by omega) (by omega) hs1 e2) e1 e2 a1 a2
end Go.Proofs.Ytfalmbcnbomaoaa
