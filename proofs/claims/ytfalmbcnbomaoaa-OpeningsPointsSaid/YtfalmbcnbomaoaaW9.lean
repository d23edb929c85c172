/- how the flows grow; sort.Search with the program's two closures -/
import Derived.Test.YtfalmbcnbomaoaaW7
import Derived.Deep.DeepCutAuto
import Derived.Deep.CutRange
import Derived.Deep.RegionHeld3
namespace Go.Proofs.Ytfalmbcnbomaoaa
open Go.Proofs.Ytfalmbcnbomaoaa.DivLaw Go.Proofs.Ytfalmbcnbomaoaa.Open Go.RowKit
set_option linter.unusedVariables false

/-- Two flows that are greater: the tests of the law. -/
def Up3 (a e b f c g : Int) : Prop := (e = 5 ∧ f = 5 ∧ g = 5) ∨ (e = 0 ∧ (f = 5 ∨ f = 0 ∧ a ≤ b) ∧ (g = 5 ∨ g = 0 ∧ a ≤ c))
theorem up3 (q0 q1 q2 : Int) (h1 : q0 ≤ q1) (h2 : q0 ≤ q2) : Up3 (flowV q0).1 (flowV q0).2 (flowV q1).1 (flowV q1).2 (flowV q2).1 (flowV q2).2 := by
  unfold Up3
  by_cases c0 : 1099511627776 < q0
  · rw [flowV_no c0, flowV_no (show 1099511627776 < q1 by omega), flowV_no (show 1099511627776 < q2 by omega)]
    exact .inl ⟨rfl, rfl, rfl⟩
  · rw [flowV_ok c0]
    refine .inr ⟨rfl, ?_, ?_⟩
    · by_cases c1 : 1099511627776 < q1
      · rw [flowV_no c1]; exact .inl rfl
      · rw [flowV_ok c1]; exact .inr ⟨rfl, h1⟩
    · by_cases c1 : 1099511627776 < q2
      · rw [flowV_no c1]; exact .inl rfl
      · rw [flowV_ok c1]; exact .inr ⟨rfl, h2⟩
theorem wq_mono (b h b' h' : Int) (hb' : b' ≤ 1048576) (hh' : h' ≤ 1048576) (hb : b ≤ b') (hh : h ≤ h') : wq b h ≤ wq b' h' := by
  unfold wq
  have := weirQ_mono (b := b.toNat) (h := h.toNat) (b' := b'.toNat) (h' := h'.toNat) (by omega) (by omega) (by omega) (by omega)
  omega
theorem oq_mono (b h b' h' : Int) (hb' : b' ≤ 1073741824) (hh' : h' ≤ 1048576) (hb : b ≤ b') (hh : h ≤ h') : oq b h ≤ oq b' h' := by
  unfold oq
  have := orifQ_mono (b := b.toNat) (h := h.toNat) (b' := b'.toNat) (h' := h'.toNat) (by omega) (by omega) (by omega) (by omega)
  omega
theorem WeirV_in {b h : Int} (h1 : 1 ≤ b) (h2 : b ≤ 1048576) (h3 : 0 ≤ h) (h4 : h ≤ 1048576) : WeirV b h = flowV (wq b h) := by unfold WeirV; rw [if_pos ⟨h1, h2, h3, h4⟩]
theorem OrificeV_in {b h : Int} (h1 : 0 ≤ b) (h2 : b ≤ 1073741824) (h3 : 0 ≤ h) (h4 : h ≤ 1048576) : OrificeV b h = flowV (oq b h) := by unfold OrificeV; rw [if_pos ⟨h1, h2, h3, h4⟩]


/-- The flow under a head that may be too great. -/
def capW (wd h : Int) : Int × Int := if 1048576 < h then (0, 5) else flowV (wq wd h)
def capO (A h : Int) : Int × Int := if 1048576 < h then (0, 5) else flowV (oq A h)
theorem OverV_in {kd up wd a b : Int} (hw : isWeirB kd up wd = true) (ha : levelB a = true) (hb : levelB b = true) : OverV kd up wd a b = capW wd (headV up a b) := by
  unfold OverV capW; rw [if_pos hw, if_pos ⟨ha, hb⟩]
theorem GateV_in {kd up wd ht s a b : Int} (hg : isGateB kd up wd ht = true) (h0 : 0 ≤ s) (h1 : s ≤ 1000) (ha : levelB a = true) (hb : levelB b = true) : GateV kd up wd ht s a b = capO (gateA wd ht s (headV up a b)) (headV up a b) := by
  unfold GateV capO; rw [if_pos hg, if_pos ⟨⟨h0, h1⟩, ha, hb⟩]
/-- One that is greater, one that is less. -/
def Way (a e b f c g : Int) : Prop := e = 5 ∨ (e = 0 ∧ (f = 5 ∨ f = 0 ∧ a ≤ b) ∧ g = 0 ∧ c ≤ a)
def UpTo (a e b f : Int) : Prop := e = 5 ∨ (e = 0 ∧ (f = 5 ∨ f = 0 ∧ a ≤ b))
theorem up_flow {q0 q1 : Int} (h : q0 ≤ q1) : UpTo (flowV q0).1 (flowV q0).2 (flowV q1).1 (flowV q1).2 := by
  unfold UpTo
  by_cases c0 : 1099511627776 < q0
  · rw [flowV_no c0]; exact .inl rfl
  · rw [flowV_ok c0]
    by_cases c1 : 1099511627776 < q1
    · rw [flowV_no c1]; exact .inr ⟨rfl, .inl rfl⟩
    · rw [flowV_ok c1]; exact .inr ⟨rfl, .inr ⟨rfl, h⟩⟩
theorem down_flow {q0 q1 : Int} (h : q1 ≤ q0) : (flowV q0).2 = 5 ∨ ((flowV q0).2 = 0 ∧ (flowV q1).2 = 0 ∧ (flowV q1).1 ≤ (flowV q0).1) := by
  by_cases c0 : 1099511627776 < q0
  · rw [flowV_no c0]; exact .inl rfl
  · rw [flowV_ok c0, flowV_ok (show ¬ 1099511627776 < q1 by omega)]; exact .inr ⟨rfl, rfl, h⟩
theorem capW_up {wd h0 h1 : Int} (hw : wd ≤ 1048576) (h : h0 ≤ h1) : UpTo (capW wd h0).1 (capW wd h0).2 (capW wd h1).1 (capW wd h1).2 := by
  unfold capW
  by_cases c1 : 1048576 < h1
  · rw [if_pos c1]
    split
    · exact .inl rfl
    · rcases up_flow (Int.le_refl (wq wd h0)) with k | ⟨k, _⟩
      · exact .inl k
      · exact .inr ⟨k, .inl rfl⟩
  · rw [if_neg c1, if_neg (by omega)]
    exact up_flow (wq_mono _ _ _ _ hw (by omega) (Int.le_refl _) h)
theorem capW_down {wd h0 h1 : Int} (hw : wd ≤ 1048576) (h : h1 ≤ h0) : (capW wd h0).2 = 5 ∨ ((capW wd h0).2 = 0 ∧ (capW wd h1).2 = 0 ∧ (capW wd h1).1 ≤ (capW wd h0).1) := by
  unfold capW
  by_cases c1 : 1048576 < h0
  · rw [if_pos c1]; exact .inl rfl
  · rw [if_neg c1, if_neg (by omega)]
    exact down_flow (wq_mono _ _ _ _ hw (by omega) (Int.le_refl _) h)
theorem capO_up {A0 A1 h0 h1 : Int} (hA : A1 ≤ 1073741824) (hAA : A0 ≤ A1) (h : h0 ≤ h1) : UpTo (capO A0 h0).1 (capO A0 h0).2 (capO A1 h1).1 (capO A1 h1).2 := by
  unfold capO
  by_cases c1 : 1048576 < h1
  · rw [if_pos c1]
    split
    · exact .inl rfl
    · rcases up_flow (Int.le_refl (oq A0 h0)) with k | ⟨k, _⟩
      · exact .inl k
      · exact .inr ⟨k, .inl rfl⟩
  · rw [if_neg c1, if_neg (by omega)]
    exact up_flow (oq_mono _ _ _ _ hA (by omega) hAA h)
theorem capO_down {A0 A1 h0 h1 : Int} (hA : A0 ≤ 1073741824) (hAA : A1 ≤ A0) (h : h1 ≤ h0) : (capO A0 h0).2 = 5 ∨ ((capO A0 h0).2 = 0 ∧ (capO A1 h1).2 = 0 ∧ (capO A1 h1).1 ≤ (capO A0 h0).1) := by
  unfold capO
  by_cases c1 : 1048576 < h0
  · rw [if_pos c1]; exact .inl rfl
  · rw [if_neg c1, if_neg (by omega)]
    exact down_flow (oq_mono _ _ _ _ hA (by omega) hAA h)
theorem way_of {a e b f c g : Int} (h1 : UpTo a e b f) (h2 : e = 5 ∨ (e = 0 ∧ g = 0 ∧ c ≤ a)) : Way a e b f c g := by
  unfold Way
  unfold UpTo at h1
  omega
theorem wq_zero (b : Int) : wq b 0 = 0 := by unfold wq; rw [show (0 : Int).toNat = 0 from rfl, weirQ_zero]; rfl
theorem oq_zero_h (b : Int) : oq b 0 = 0 := by unfold oq; rw [show (0 : Int).toNat = 0 from rfl, orifQ_zero_h]; rfl
theorem oq_zero_a (h : Int) : oq 0 h = 0 := by unfold oq; rw [show (0 : Int).toNat = 0 from rfl, orifQ_zero_a]; rfl
theorem capW_zero (b : Int) : capW b 0 = (0, 0) := by unfold capW; rw [if_neg (by omega), wq_zero]; exact flowV_ok (by omega)
theorem capO_zero_h (b : Int) : capO b 0 = (0, 0) := by unfold capO; rw [if_neg (by omega), oq_zero_h]; exact flowV_ok (by omega)
theorem capO_zero_a (h : Int) : (capO 0 h).2 = 5 ∨ ((capO 0 h).2 = 0 ∧ (capO 0 h).1 = 0) := by
  unfold capO
  split
  · exact .inl rfl
  · rw [oq_zero_a]; rw [flowV_ok (by omega)]; exact .inr ⟨rfl, rfl⟩
theorem gateA_mono {wd ht s h s' h' : Int} (h1 : 0 ≤ wd) (h2 : 0 ≤ ht) (hs : s ≤ s') (hh : h ≤ h') : gateA wd ht s h ≤ gateA wd ht s' h' := by
  unfold gateA
  have := Int.mul_le_mul_of_nonneg_left hs h2
  exact Int.mul_le_mul_of_nonneg_left (by omega) h1
theorem levelB_of {n : Int} (h1 : -4194304 ≤ n) (h2 : n ≤ 4194304) : levelB n = true := by unfold levelB; simp [h1, h2]
theorem headV_zero {u a b : Int} (h : a ≤ b ∨ a ≤ u) : headV u a b = 0 := by unfold headV; omega
theorem kinds {kd up wd ht : Int} (h : isWeirB kd up wd = true) : isGateB kd up wd ht = false := by
  have := (isWeirB_parts _ _ _ h).1
  subst this
  rfl

/-- The first index from i on, of k, at which p holds. -/
def least (p : Nat → Bool) : Nat → Nat → Nat
  | i, 0 => i
  | i, k + 1 => if p i then i else least p (i + 1) k
theorem least_spec (p : Nat → Bool) : ∀ k i, i ≤ least p i k ∧ least p i k ≤ i + k ∧ (∀ t, i ≤ t → t < least p i k → p t = false) ∧ (least p i k < i + k → p (least p i k) = true)
  | 0, i => by simp only [least]; exact ⟨Nat.le_refl _, Nat.le_refl _, fun t h1 h2 => by omega, fun h => by omega⟩
  | k + 1, i => by
    simp only [least]
    by_cases h : p i = true
    · rw [if_pos h]; exact ⟨Nat.le_refl _, by omega, fun t h1 h2 => by omega, fun _ => h⟩
    · rw [if_neg h]
      obtain ⟨a, b, c, d⟩ := least_spec p k (i + 1)
      refine ⟨by omega, by omega, fun t h1 h2 => ?_, fun h' => d (by omega)⟩
      by_cases e : t = i
      · subst e; simpa using h
      · exact c t (by omega) h2
/-- Where p changes once: below r it is false, from r on true. -/
def Edge (p : Nat → Bool) (n r : Nat) : Prop := r ≤ n ∧ (∀ t, t < r → p t = false) ∧ (∀ t, r ≤ t → t < n → p t = true)
theorem least_edge (p : Nat → Bool) (n : Nat) (hm : ∀ a b, a ≤ b → b < n → p a = true → p b = true) : Edge p n (least p 0 n) := by
  obtain ⟨a, b, c, d⟩ := least_spec p n 0
  refine ⟨by omega, fun t h => c t (by omega) h, fun t h1 h2 => hm _ t h1 h2 (d (by omega))⟩


set_option maxHeartbeats 4000000 in
theorem Search_head (n r : Nat) (p : Nat → Bool) (b1 b2 : Nat) (hn : (n : Int) ≤ 4611686018427387904) (hr : Edge p n r) (w : World)
    (hf : ∀ W, Below w.heap.size w W → ∀ i : Nat, i < n → Calls Try.prog 49 #[.int .i64 i, .pointer (some ⟨b1, 0, none⟩), .pointer (some ⟨b2, 0, none⟩)] W fun e w' => e = .returned (.bool (p i)) ∧ Below W.heap.size W w') :
    Calls Try.prog 48 #[.int .i64 n, .func (.func 49) #[] #[.pointer (some ⟨b1, 0, none⟩), .pointer (some ⟨b2, 0, none⟩)]] w fun e w' => e = .returned (.int .i64 r) ∧ Below w.heap.size w w' := by
  have HF := Lib.hid hf
  have HR := Lib.hid hr
  clear hf hr
  go_enter Try.func48, Try.ntmps48
  go_wp2_with fail
  go_loopw [5, 6] (fun s5 s6 wr => ∃ lo hi : Nat, s5 = .int .i64 lo ∧ s6 = .int .i64 hi ∧ Hid (lo ≤ r ∧ r ≤ hi ∧ hi ≤ n) ∧ Below w.heap.size w wr) (fun s5 s6 _ => (intOf s6).toNat - (intOf s5).toNat)
  case atStart => exact ⟨0, n, rfl, rfl, Lib.hid ⟨Nat.zero_le _, HR.out.1, Nat.le_refl _⟩, Below.refl _ _⟩
  case round =>
    obtain ⟨lo, hi, rfl, rfl, hI, hbw⟩ := hrel
    have hhi : (hi : Int) ≤ 4611686018427387904 := by have := hI.out; omega
    by_cases c : (lo : Int) < (hi : Int)
    · obtain ⟨m, hm⟩ : ∃ m, m = (lo + hi) / 2 := ⟨_, rfl⟩
      have em : ((lo : Int) + (hi : Int)) / 2 = (m : Int) := by omega
      have m1 : (lo : Int) ≤ m := by omega
      have m2 : (m : Int) < hi := by omega
      have hc := HF.out wr hbw m (by have := hI.out; omega)
      cases hp : p m
      · rw [hp] at hc
        have C := Lib.hid hc
        have hl : Hid (m < r) := Lib.hid (by
          rcases Nat.lt_or_ge m r with h | h
          · exact h
          · have := HR.out.2.2 m h (by have := hI.out; omega)
            rw [hp] at this; cases this)
        clear hc hp hm
        go_wp2_with fail
        refine (C.out).mono ?_
        rintro e w1 ⟨rfl, hb1⟩
        go_wp2_with fail
        go_roundw
        case rel => exact ⟨m + 1, hi, by go_num, rfl, Lib.hid (by have := hI.out; have := hl.out; omega), hbw.trans (hb1.mono hbw.size)⟩
        case measure => simp [intOf]; omega
      · rw [hp] at hc
        have C := Lib.hid hc
        have hl : Hid (r ≤ m) := Lib.hid (by
          rcases Nat.lt_or_ge m r with h | h
          · have := HR.out.2.1 m h
            rw [hp] at this; cases this
          · exact h)
        clear hc hp hm
        go_wp2_with fail
        refine (C.out).mono ?_
        rintro e w1 ⟨rfl, hb1⟩
        go_wp2_with fail
        go_roundw
        case rel => exact ⟨lo, m, rfl, rfl, Lib.hid (by have := hI.out; have := hl.out; omega), hbw.trans (hb1.mono hbw.size)⟩
        case measure => simp [intOf]; omega
    · have hl : Hid (lo = r) := Lib.hid (by have := hI.out; omega)
      go_wp2_with fail
      go_returns
      exact ⟨(by show Ending.returned (.int .i64 (lo : Int)) = _; rw [hl.out]), hbw⟩

set_option maxHeartbeats 4000000 in
theorem Search_gate (n r : Nat) (p : Nat → Bool) (b1 b2 b3 : Nat) (hn : (n : Int) ≤ 4611686018427387904) (hr : Edge p n r) (w : World)
    (hf : ∀ W, Below w.heap.size w W → ∀ i : Nat, i < n → Calls Try.prog 50 #[.int .i64 i, .pointer (some ⟨b1, 0, none⟩), .pointer (some ⟨b2, 0, none⟩), .pointer (some ⟨b3, 0, none⟩)] W fun e w' => e = .returned (.bool (p i)) ∧ Below W.heap.size W w') :
    Calls Try.prog 48 #[.int .i64 n, .func (.func 50) #[] #[.pointer (some ⟨b1, 0, none⟩), .pointer (some ⟨b2, 0, none⟩), .pointer (some ⟨b3, 0, none⟩)]] w fun e w' => e = .returned (.int .i64 r) ∧ Below w.heap.size w w' := by
  have HF := Lib.hid hf
  have HR := Lib.hid hr
  clear hf hr
  go_enter Try.func48, Try.ntmps48
  go_wp2_with fail
  go_loopw [5, 6] (fun s5 s6 wr => ∃ lo hi : Nat, s5 = .int .i64 lo ∧ s6 = .int .i64 hi ∧ Hid (lo ≤ r ∧ r ≤ hi ∧ hi ≤ n) ∧ Below w.heap.size w wr) (fun s5 s6 _ => (intOf s6).toNat - (intOf s5).toNat)
  case atStart => exact ⟨0, n, rfl, rfl, Lib.hid ⟨Nat.zero_le _, HR.out.1, Nat.le_refl _⟩, Below.refl _ _⟩
  case round =>
    obtain ⟨lo, hi, rfl, rfl, hI, hbw⟩ := hrel
    have hhi : (hi : Int) ≤ 4611686018427387904 := by have := hI.out; omega
    by_cases c : (lo : Int) < (hi : Int)
    · obtain ⟨m, hm⟩ : ∃ m, m = (lo + hi) / 2 := ⟨_, rfl⟩
      have em : ((lo : Int) + (hi : Int)) / 2 = (m : Int) := by omega
      have m1 : (lo : Int) ≤ m := by omega
      have m2 : (m : Int) < hi := by omega
      have hc := HF.out wr hbw m (by have := hI.out; omega)
      cases hp : p m
      · rw [hp] at hc
        have C := Lib.hid hc
        have hl : Hid (m < r) := Lib.hid (by
          rcases Nat.lt_or_ge m r with h | h
          · exact h
          · have := HR.out.2.2 m h (by have := hI.out; omega)
            rw [hp] at this; cases this)
        clear hc hp hm
        go_wp2_with fail
        refine (C.out).mono ?_
        rintro e w1 ⟨rfl, hb1⟩
        go_wp2_with fail
        go_roundw
        case rel => exact ⟨m + 1, hi, by go_num, rfl, Lib.hid (by have := hI.out; have := hl.out; omega), hbw.trans (hb1.mono hbw.size)⟩
        case measure => simp [intOf]; omega
      · rw [hp] at hc
        have C := Lib.hid hc
        have hl : Hid (r ≤ m) := Lib.hid (by
          rcases Nat.lt_or_ge m r with h | h
          · have := HR.out.2.1 m h
            rw [hp] at this; cases this
          · exact h)
        clear hc hp hm
        go_wp2_with fail
        refine (C.out).mono ?_
        rintro e w1 ⟨rfl, hb1⟩
        go_wp2_with fail
        go_roundw
        case rel => exact ⟨lo, m, rfl, rfl, Lib.hid (by have := hI.out; have := hl.out; omega), hbw.trans (hb1.mono hbw.size)⟩
        case measure => simp [intOf]; omega
    · have hl : Hid (lo = r) := Lib.hid (by have := hI.out; omega)
      go_wp2_with fail
      go_returns
      exact ⟨(by show Ending.returned (.int .i64 (lo : Int)) = _; rw [hl.out]), hbw⟩

theorem below_step {B : Nat} {w W w1 : World} (h : Below B w W) (hb : Below W.heap.size W w1) (hB : B ≤ W.heap.size) : Below B w w1 := h.trans (hb.mono hB)

set_option maxHeartbeats 2000000 in
theorem Head_closure (b q h : Int) (b1 b2 : Nat) (hb0 : 0 ≤ b) (hb : b ≤ 1048576) (hh0 : 0 ≤ h) (hh : h ≤ 1048576) (W : World) (l1 : b1 < W.heap.size) (l2 : b2 < W.heap.size)
    (c1 : W.cell? ⟨b1, 0, none⟩ = some (.int .i64 b)) (c2 : W.cell? ⟨b2, 0, none⟩ = some (.int .i64 q)) :
    Calls Try.prog 49 #[.int .i64 h, .pointer (some ⟨b1, 0, none⟩), .pointer (some ⟨b2, 0, none⟩)] W fun e w' => e = .returned (.bool (decide (q ≤ wq b h))) ∧ Below W.heap.size W w' := by
  have c := fun V => weir_calls b h hb0 hb hh0 hh V
  generalize wq b h = x at *
  have C := Lib.hid c
  clear c
  go_enter Try.func49, Try.ntmps49
  go_wp2_with fail
  go_region_held3 (fun V => V.cell? ⟨b1, 0, none⟩ = some (.int .i64 b) ∧ V.cell? ⟨b2, 0, none⟩ = some (.int .i64 q) ∧ Below W.heap.size W V) (first | exact ⟨c1, c2, (Below.refl _ _).drew⟩ | exact ⟨by assumption, by assumption, by assumption⟩) (first | (go_at_call 40; refine (C.out _).mono ?_; rintro e w1 ⟨rfl, hb1⟩; have p1 := (hb1.cell (p := ⟨b1, 0, none⟩) l1).trans c1; have p2 := (hb1.cell (p := ⟨b2, 0, none⟩) l2).trans c2; have p3 := (Below.refl W.heap.size W).drew.trans hb1))
  all_goals (go_wp2_with fail; go_returns; exact ⟨rfl, by assumption⟩)

set_option maxHeartbeats 4000000 in
theorem Opening_closure (n0 n1 n2 sc : ByteArray) (kd ln up dn wd ht : Int) (ca : Option Addr) (cn cc : Nat) (q h s : Int) (b1 b2 b3 : Nat) (h1 : 1 ≤ wd) (h2 : wd ≤ 32768) (h3 : 1 ≤ ht) (h4 : ht ≤ 32768) (h5 : 0 ≤ s) (h6 : s ≤ 1000) (h7 : 0 ≤ h) (h8 : h ≤ 1048576) (W : World) (l2 : b2 < W.heap.size) (l3 : b3 < W.heap.size)
    (A : AtL W b1 n0 n1 n2 sc kd ln up dn wd ht ca cn cc) (c2 : W.cell? ⟨b2, 0, none⟩ = some (.int .i64 h)) (c3 : W.cell? ⟨b3, 0, none⟩ = some (.int .i64 q)) :
    Calls Try.prog 50 #[.int .i64 s, .pointer (some ⟨b1, 0, none⟩), .pointer (some ⟨b2, 0, none⟩), .pointer (some ⟨b3, 0, none⟩)] W fun e w' => e = .returned (.bool (decide (q ≤ oq (gateA wd ht s h) h))) ∧ Below W.heap.size W w' := by
  have c := fun V => gate_calls n0 n1 n2 sc kd ln up dn wd ht ca cn cc s h h1 h2 h3 h4 h5 h6 h7 h8 V
  generalize oq (gateA wd ht s h) h = x at *
  have C := Lib.hid c
  have HA := Lib.hid A
  obtain ⟨f0, f1, f2, f3, f4, f5, f6, f7, f8, f9, f10, fl⟩ := A
  clear c
  go_enter Try.func50, Try.ntmps50
  go_wp2_with fail
  go_region_held3 (fun V => V.cell? ⟨b1, 0, none⟩ = some (.string n0) ∧ V.cell? ⟨b1, 1, none⟩ = some (.string n1) ∧ V.cell? ⟨b1, 2, none⟩ = some (.string n2) ∧ V.cell? ⟨b1, 3, none⟩ = some (.int .i64 kd) ∧ V.cell? ⟨b1, 4, none⟩ = some (.int .i64 ln) ∧ V.cell? ⟨b1, 5, none⟩ = some (.int .i64 up) ∧ V.cell? ⟨b1, 6, none⟩ = some (.int .i64 dn) ∧ V.cell? ⟨b1, 7, none⟩ = some (.string sc) ∧ V.cell? ⟨b1, 8, none⟩ = some (.int .i64 wd) ∧ V.cell? ⟨b1, 9, none⟩ = some (.int .i64 ht) ∧ V.cell? ⟨b1, 10, none⟩ = some (.slice ca cn cc) ∧ V.cell? ⟨b2, 0, none⟩ = some (.int .i64 h) ∧ V.cell? ⟨b3, 0, none⟩ = some (.int .i64 q) ∧ Below W.heap.size W V) (first | exact ⟨f0, f1, f2, f3, f4, f5, f6, f7, f8, f9, f10, c2, c3, (Below.refl _ _).drew⟩ | exact ⟨by assumption, by assumption, by assumption, by assumption, by assumption, by assumption, by assumption, by assumption, by assumption, by assumption, by assumption, by assumption, by assumption, by assumption⟩) (first | (go_at_call 46; refine (C.out _).mono ?_; rintro e w1 ⟨rfl, hb1⟩; have p2 := (hb1.cell (p := ⟨b2, 0, none⟩) l2).trans c2; have p3 := (hb1.cell (p := ⟨b3, 0, none⟩) l3).trans c3; have p4 := (Below.refl W.heap.size W).drew.trans hb1; have A1 := AtL.below (W := W.drew) ⟨f0, f1, f2, f3, f4, f5, f6, f7, f8, f9, f10, fl⟩ hb1; obtain ⟨y0, y1, y2, y3, y4, y5, y6, y7, y8, y9, y10, yl⟩ := A1))
  all_goals (go_wp2_with fail; go_returns; exact ⟨rfl, by assumption⟩)
end Go.Proofs.Ytfalmbcnbomaoaa
