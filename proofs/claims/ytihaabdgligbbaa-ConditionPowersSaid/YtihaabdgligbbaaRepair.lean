/- Repair of the program and of the reference. -/
import Derived.Test.YtihaabdgligbbaaWorse
import Derived.Test.YtihaabdgligbbaaAppend
namespace Go.Proofs.Ytihaabdgligbbaa
open Go.RowKit
set_option linter.unusedVariables false

def repL (l : List Int) (f t : Nat) (a : Int) : List Int := fl l.length (fun j => if j = t then el l t + a else if j = f then el l f - a else el l j)
def RepV (l : List Int) (f t a : Int) : List Int × Int :=
  if stockB l = false then ([], 1) else if 1 ≤ f ∧ f ≤ l.length ∧ 1 ≤ t ∧ t < f ∧ 0 ≤ a ∧ a ≤ el l (f.toNat - 1) then (repL l (f.toNat - 1) (t.toNat - 1) a, 0) else ([], 2)

set_option maxHeartbeats 1000000 in
theorem Repair_rngP0 {A : Option Addr} {n c : Nat} (f t a : Int) (w : World) (h1c : n ≤ c) (h2c : c ≤ 9223372036854775807)
    (gs : Calls Try.prog 58 #[.slice A n c] w fun e w' => e = .returned (.bool true) ∧ w = w') (h0 : f < 1) :
    Calls Try.prog 33 #[.slice A n c, .int .i64 f, .int .i64 t, .int .i64 a] w (RetL [] 2 w) := by
  have G := Lib.hid gs
  clear gs
  go_enter Try.func33, Try.ntmps33
  go_wp2_with fail
  refine (G.out).mono ?_
  rintro e w' ⟨rfl, rfl⟩
  go_wp2
  go_returns
  exact RetL.none_ (Below.refl _ _)

set_option maxHeartbeats 1000000 in
theorem Repair_rngP1 {A : Option Addr} {n c : Nat} (f t a : Int) (w : World) (h1c : n ≤ c) (h2c : c ≤ 9223372036854775807)
    (gs : Calls Try.prog 58 #[.slice A n c] w fun e w' => e = .returned (.bool true) ∧ w = w') (h0 : ¬ f < 1) (h1 : (n : Int) < f) :
    Calls Try.prog 33 #[.slice A n c, .int .i64 f, .int .i64 t, .int .i64 a] w (RetL [] 2 w) := by
  have G := Lib.hid gs
  clear gs
  go_enter Try.func33, Try.ntmps33
  go_wp2_with fail
  refine (G.out).mono ?_
  rintro e w' ⟨rfl, rfl⟩
  go_wp2
  go_returns
  exact RetL.none_ (Below.refl _ _)

set_option maxHeartbeats 1000000 in
theorem Repair_rngP2 {A : Option Addr} {n c : Nat} (f t a : Int) (w : World) (h1c : n ≤ c) (h2c : c ≤ 9223372036854775807)
    (gs : Calls Try.prog 58 #[.slice A n c] w fun e w' => e = .returned (.bool true) ∧ w = w') (h0 : ¬ f < 1) (h1 : ¬ (n : Int) < f) (h2 : t < 1) :
    Calls Try.prog 33 #[.slice A n c, .int .i64 f, .int .i64 t, .int .i64 a] w (RetL [] 2 w) := by
  have G := Lib.hid gs
  clear gs
  go_enter Try.func33, Try.ntmps33
  go_wp2_with fail
  refine (G.out).mono ?_
  rintro e w' ⟨rfl, rfl⟩
  go_wp2
  go_returns
  exact RetL.none_ (Below.refl _ _)

set_option maxHeartbeats 1000000 in
theorem Repair_rngP3 {A : Option Addr} {n c : Nat} (f t a : Int) (w : World) (h1c : n ≤ c) (h2c : c ≤ 9223372036854775807)
    (gs : Calls Try.prog 58 #[.slice A n c] w fun e w' => e = .returned (.bool true) ∧ w = w') (h0 : ¬ f < 1) (h1 : ¬ (n : Int) < f) (h2 : ¬ t < 1) (h3 : f ≤ t) :
    Calls Try.prog 33 #[.slice A n c, .int .i64 f, .int .i64 t, .int .i64 a] w (RetL [] 2 w) := by
  have G := Lib.hid gs
  clear gs
  go_enter Try.func33, Try.ntmps33
  go_wp2_with fail
  refine (G.out).mono ?_
  rintro e w' ⟨rfl, rfl⟩
  go_wp2
  go_returns
  exact RetL.none_ (Below.refl _ _)

set_option maxHeartbeats 1000000 in
theorem Repair_rngP4 {A : Option Addr} {n c : Nat} (f t a : Int) (w : World) (h1c : n ≤ c) (h2c : c ≤ 9223372036854775807)
    (gs : Calls Try.prog 58 #[.slice A n c] w fun e w' => e = .returned (.bool true) ∧ w = w') (h0 : ¬ f < 1) (h1 : ¬ (n : Int) < f) (h2 : ¬ t < 1) (h3 : ¬ f ≤ t) (h4 : a < 0) :
    Calls Try.prog 33 #[.slice A n c, .int .i64 f, .int .i64 t, .int .i64 a] w (RetL [] 2 w) := by
  have G := Lib.hid gs
  clear gs
  go_enter Try.func33, Try.ntmps33
  go_wp2_with fail
  refine (G.out).mono ?_
  rintro e w' ⟨rfl, rfl⟩
  go_wp2
  go_returns
  exact RetL.none_ (Below.refl _ _)

set_option maxHeartbeats 1000000 in
theorem Repair_rngP5 {A : Option Addr} {n c : Nat} {l : List Int} (f : Nat) (t a : Int) (w : World) (h : Ints w A n c l)
    (gs : Calls Try.prog 58 #[.slice A n c] w fun e w' => e = .returned (.bool true) ∧ w = w') (hf : f < n) (h1 : ¬ t < 1) (h2 : ¬ (f : Int) + 1 ≤ t) (h3 : ¬ a < 0) (h4 : el l f < a) :
    Calls Try.prog 33 #[.slice A n c, .int .i64 ((f : Int) + 1), .int .i64 t, .int .i64 a] w (RetL [] 2 w) := by
  have G := Lib.hid gs
  have hcap := h.cap
  have hmax := h.max
  have hfew := h.few
  obtain ⟨ad, rfl, hl, hc⟩ := h.at_ hf
  have hfi : ¬ (n : Int) < (f : Int) + 1 := by omega
  have hf1 : ¬ (f : Int) + 1 < 1 := by omega
  generalize el l f = x at *
  clear gs h
  go_enter Try.func33, Try.ntmps33
  go_wp2_with fail
  refine (G.out).mono ?_
  rintro e w' ⟨rfl, rfl⟩
  go_wp2
  go_returns
  exact RetL.none_ (Below.refl _ _)

set_option maxHeartbeats 1000000 in
theorem Repair_noP {A : Option Addr} {n c : Nat} (f t a : Int) (w : World) (h1c : n ≤ c) (h2c : c ≤ 9223372036854775807)
    (gs : Calls Try.prog 58 #[.slice A n c] w fun e w' => e = .returned (.bool false) ∧ w = w') :
    Calls Try.prog 33 #[.slice A n c, .int .i64 f, .int .i64 t, .int .i64 a] w (RetL [] 1 w) := by
  have G := Lib.hid gs
  clear gs
  go_enter Try.func33, Try.ntmps33
  go_wp2_with fail
  refine (G.out).mono ?_
  rintro e w' ⟨rfl, rfl⟩
  go_wp2
  go_returns
  exact RetL.none_ (Below.refl _ _)

set_option maxHeartbeats 1000000 in
theorem Repair_inP {A : Option Addr} {n c : Nat} {l : List Int} (f t : Nat) (a : Int) (w : World) (h : Ints w A n c l) (hs : stockB l = true) (hf : f < n) (ht : t < f) (ha0 : 0 ≤ a) (ha1 : a ≤ el l f) :
    Calls Try.prog 33 #[.slice A n c, .int .i64 ((f : Int) + 1), .int .i64 ((t : Int) + 1), .int .i64 a] w (RetL (repL l f t a) 0 w) := by
  have gs := stock_calls w h
  rw [hs] at gs
  have G := Lib.hid gs
  have hcap := h.cap
  have hmax := h.max
  have hfew := h.few
  have HL := Lib.hid h.len
  have hin := (stockB_parts hs).2.2.1
  have bf := inB_el hin (show f < l.length by rw [h.len]; exact hf)
  have bt := inB_el hin (show t < l.length by rw [h.len]; omega)
  have HIN := Lib.hid hin
  have H := Lib.hid h
  obtain ⟨ad, rfl, hl, hc⟩ := h.at_ hf
  have hfi : ¬ (n : Int) < (f : Int) + 1 := by omega
  have hf1 : ¬ (f : Int) + 1 < 1 := by omega
  have ht1 : ¬ (t : Int) + 1 < 1 := by omega
  have htf : ¬ (f : Int) + 1 ≤ (t : Int) + 1 := by omega
  have ha2 : ¬ a < 0 := by omega
  have ha3 : ¬ el l f < a := by omega
  obtain ⟨bf0, bf1⟩ := bf
  obtain ⟨bt0, bt1⟩ := bt
  have HRP : Hid (repL l f t a = fl n (fun j => if j = t then el l t + a else if j = f then el l f - a else el l j)) := Lib.hid (by unfold repL; rw [HL.out])
  have CL := Lib.hid (Clone_calls w H.out)
  clear gs h hs hin
  go_enter Try.func33, Try.ntmps33
  go_wp2_with fail
  refine (G.out).mono ?_
  rintro e w' ⟨rfl, rfl⟩
  go_wp2_with fail
  refine (CL.out).mono ?_
  rintro e w1 ⟨v, rfl, hv, hb⟩
  obtain ⟨g, c2, hvv, hg, hc2, hm2, hrow⟩ := hv.asRow (by rw [HL.out]; omega)
  rw [HL.out] at hvv hc2 hrow
  subst hvv
  have cf := hrow.cell f hf
  have ff := hrow.free f
  have ft := hrow.free t
  have r1 := hrow.set f (el l f - a)
  have ct : (w1.setCell ⟨g, f, none⟩ (.int .i64 (el l f - a))).cell? ⟨g, t, none⟩ = some (.int .i64 (el l t)) := by
    rw [r1.cell t (by omega), if_neg (by omega)]
  have r2 := r1.set t (el l t + a)
  have hI := (r2.ints (c := c2) (Nat.le_trans (Nat.le_refl n) hc2) hm2 (by omega) (fun q hq => by
    have := inB_el HIN.out (show q < l.length by rw [HL.out]; exact hq)
    by_cases h1 : q = t
    · rw [if_pos h1]; omega
    · rw [if_neg h1]
      by_cases h2 : q = f
      · rw [if_pos h2]; omega
      · rw [if_neg h2]; omega))
  rw [← HRP.out] at hI
  have HII := Lib.hid hI
  have HB := Lib.hid hb
  have HG := Lib.hid hg
  clear hI hb hg hv r1 r2 hrow hc hl
  generalize el l f = x at *
  generalize el l t = y at *
  go_wp2
  go_returns
  exact ⟨_, _, _, rfl, HII.out, (HB.out.setCell HG.out _).setCell HG.out _, fun ad e => by injection e with e; subst e; exact HG.out⟩

theorem Repair_calls {A : Option Addr} {n c : Nat} {l : List Int} (f t a : Int) (w : World) (h : Ints w A n c l) :
    Calls Try.prog 33 #[.slice A n c, .int .i64 f, .int .i64 t, .int .i64 a] w (RetL (RepV l f t a).1 (RepV l f t a).2 w) := by
  have gs := stock_calls w h
  unfold RepV
  cases hs : stockB l
  · rw [hs] at gs
    rw [if_pos rfl]
    exact Repair_noP f t a w h.cap h.max gs
  · rw [if_neg (by decide), h.len]
    rw [hs] at gs
    by_cases h0 : f < 1
    · rw [if_neg (by omega)]; exact Repair_rngP0 f t a w h.cap h.max gs h0
    by_cases h1 : (n : Int) < f
    · rw [if_neg (by omega)]; exact Repair_rngP1 f t a w h.cap h.max gs h0 h1
    by_cases h2 : t < 1
    · rw [if_neg (by omega)]; exact Repair_rngP2 f t a w h.cap h.max gs h0 h1 h2
    by_cases h3 : f ≤ t
    · rw [if_neg (by omega)]; exact Repair_rngP3 f t a w h.cap h.max gs h0 h1 h2 h3
    by_cases h4 : a < 0
    · rw [if_neg (by omega)]; exact Repair_rngP4 f t a w h.cap h.max gs h0 h1 h2 h3 h4
    obtain ⟨F, rfl⟩ : ∃ F : Nat, f = (F : Int) + 1 := ⟨(f - 1).toNat, by omega⟩
    rw [show ((F : Int) + 1).toNat - 1 = F by omega]
    by_cases h5 : el l F < a
    · rw [if_neg (by omega)]; exact Repair_rngP5 F t a w h gs (by omega) h2 (by omega) h4 h5
    obtain ⟨T, rfl⟩ : ∃ T : Nat, t = (T : Int) + 1 := ⟨(t - 1).toNat, by omega⟩
    rw [show ((T : Int) + 1).toNat - 1 = T by omega, if_pos (by omega)]
    exact Repair_inP F T a w h hs (by omega) (by omega) (by omega) (by omega)

set_option maxHeartbeats 1000000 in
theorem Repair_rngR0 {A : Option Addr} {n c : Nat} (f t a : Int) (w : World) (h1c : n ≤ c) (h2c : c ≤ 9223372036854775807)
    (gs : Calls Try.prog 36 #[.slice A n c] w fun e w' => e = .returned (.bool true) ∧ w = w') (h0 : f < 1) :
    Calls Try.prog 35 #[.slice A n c, .int .i64 f, .int .i64 t, .int .i64 a] w (RetL [] 2 w) := by
  have G := Lib.hid gs
  clear gs
  go_enter Try.func35, Try.ntmps35
  go_wp2_with fail
  refine (G.out).mono ?_
  rintro e w' ⟨rfl, rfl⟩
  go_wp2
  go_returns
  exact RetL.none_ (Below.refl _ _)

set_option maxHeartbeats 1000000 in
theorem Repair_rngR1 {A : Option Addr} {n c : Nat} (f t a : Int) (w : World) (h1c : n ≤ c) (h2c : c ≤ 9223372036854775807)
    (gs : Calls Try.prog 36 #[.slice A n c] w fun e w' => e = .returned (.bool true) ∧ w = w') (h0 : ¬ f < 1) (h1 : (n : Int) < f) :
    Calls Try.prog 35 #[.slice A n c, .int .i64 f, .int .i64 t, .int .i64 a] w (RetL [] 2 w) := by
  have G := Lib.hid gs
  clear gs
  go_enter Try.func35, Try.ntmps35
  go_wp2_with fail
  refine (G.out).mono ?_
  rintro e w' ⟨rfl, rfl⟩
  go_wp2
  go_returns
  exact RetL.none_ (Below.refl _ _)

set_option maxHeartbeats 1000000 in
theorem Repair_rngR2 {A : Option Addr} {n c : Nat} (f t a : Int) (w : World) (h1c : n ≤ c) (h2c : c ≤ 9223372036854775807)
    (gs : Calls Try.prog 36 #[.slice A n c] w fun e w' => e = .returned (.bool true) ∧ w = w') (h0 : ¬ f < 1) (h1 : ¬ (n : Int) < f) (h2 : t < 1) :
    Calls Try.prog 35 #[.slice A n c, .int .i64 f, .int .i64 t, .int .i64 a] w (RetL [] 2 w) := by
  have G := Lib.hid gs
  clear gs
  go_enter Try.func35, Try.ntmps35
  go_wp2_with fail
  refine (G.out).mono ?_
  rintro e w' ⟨rfl, rfl⟩
  go_wp2
  go_returns
  exact RetL.none_ (Below.refl _ _)

set_option maxHeartbeats 1000000 in
theorem Repair_rngR3 {A : Option Addr} {n c : Nat} (f t a : Int) (w : World) (h1c : n ≤ c) (h2c : c ≤ 9223372036854775807)
    (gs : Calls Try.prog 36 #[.slice A n c] w fun e w' => e = .returned (.bool true) ∧ w = w') (h0 : ¬ f < 1) (h1 : ¬ (n : Int) < f) (h2 : ¬ t < 1) (h3 : f ≤ t) :
    Calls Try.prog 35 #[.slice A n c, .int .i64 f, .int .i64 t, .int .i64 a] w (RetL [] 2 w) := by
  have G := Lib.hid gs
  clear gs
  go_enter Try.func35, Try.ntmps35
  go_wp2_with fail
  refine (G.out).mono ?_
  rintro e w' ⟨rfl, rfl⟩
  go_wp2
  go_returns
  exact RetL.none_ (Below.refl _ _)

set_option maxHeartbeats 1000000 in
theorem Repair_rngR4 {A : Option Addr} {n c : Nat} (f t a : Int) (w : World) (h1c : n ≤ c) (h2c : c ≤ 9223372036854775807)
    (gs : Calls Try.prog 36 #[.slice A n c] w fun e w' => e = .returned (.bool true) ∧ w = w') (h0 : ¬ f < 1) (h1 : ¬ (n : Int) < f) (h2 : ¬ t < 1) (h3 : ¬ f ≤ t) (h4 : a < 0) :
    Calls Try.prog 35 #[.slice A n c, .int .i64 f, .int .i64 t, .int .i64 a] w (RetL [] 2 w) := by
  have G := Lib.hid gs
  clear gs
  go_enter Try.func35, Try.ntmps35
  go_wp2_with fail
  refine (G.out).mono ?_
  rintro e w' ⟨rfl, rfl⟩
  go_wp2
  go_returns
  exact RetL.none_ (Below.refl _ _)

set_option maxHeartbeats 1000000 in
theorem Repair_rngR5 {A : Option Addr} {n c : Nat} {l : List Int} (f : Nat) (t a : Int) (w : World) (h : Ints w A n c l)
    (gs : Calls Try.prog 36 #[.slice A n c] w fun e w' => e = .returned (.bool true) ∧ w = w') (hf : f < n) (h1 : ¬ t < 1) (h2 : ¬ (f : Int) + 1 ≤ t) (h3 : ¬ a < 0) (h4 : el l f < a) :
    Calls Try.prog 35 #[.slice A n c, .int .i64 ((f : Int) + 1), .int .i64 t, .int .i64 a] w (RetL [] 2 w) := by
  have G := Lib.hid gs
  have hcap := h.cap
  have hmax := h.max
  have hfew := h.few
  obtain ⟨ad, rfl, hl, hc⟩ := h.at_ hf
  have hfi : ¬ (n : Int) < (f : Int) + 1 := by omega
  have hf1 : ¬ (f : Int) + 1 < 1 := by omega
  generalize el l f = x at *
  clear gs h
  go_enter Try.func35, Try.ntmps35
  go_wp2_with fail
  refine (G.out).mono ?_
  rintro e w' ⟨rfl, rfl⟩
  go_wp2
  go_returns
  exact RetL.none_ (Below.refl _ _)

set_option maxHeartbeats 1000000 in
theorem Repair_noR {A : Option Addr} {n c : Nat} (f t a : Int) (w : World) (h1c : n ≤ c) (h2c : c ≤ 9223372036854775807)
    (gs : Calls Try.prog 36 #[.slice A n c] w fun e w' => e = .returned (.bool false) ∧ w = w') :
    Calls Try.prog 35 #[.slice A n c, .int .i64 f, .int .i64 t, .int .i64 a] w (RetL [] 1 w) := by
  have G := Lib.hid gs
  clear gs
  go_enter Try.func35, Try.ntmps35
  go_wp2_with fail
  refine (G.out).mono ?_
  rintro e w' ⟨rfl, rfl⟩
  go_wp2
  go_returns
  exact RetL.none_ (Below.refl _ _)

set_option maxHeartbeats 1000000 in
theorem Repair_inR {A : Option Addr} {n c : Nat} {l : List Int} (f t : Nat) (a : Int) (w : World) (h : Ints w A n c l) (hs : stockB l = true) (hf : f < n) (ht : t < f) (ha0 : 0 ≤ a) (ha1 : a ≤ el l f) :
    Calls Try.prog 35 #[.slice A n c, .int .i64 ((f : Int) + 1), .int .i64 ((t : Int) + 1), .int .i64 a] w (RetL (repL l f t a) 0 w) := by
  have gs := Stock_ref w h
  rw [hs] at gs
  have G := Lib.hid gs
  have hcap := h.cap
  have hmax := h.max
  have hfew := h.few
  have HL := Lib.hid h.len
  have hin := (stockB_parts hs).2.2.1
  have bf := inB_el hin (show f < l.length by rw [h.len]; exact hf)
  have bt := inB_el hin (show t < l.length by rw [h.len]; omega)
  have HIN := Lib.hid hin
  have H := Lib.hid h
  obtain ⟨ad, rfl, hl, hc⟩ := h.at_ hf
  have hfi : ¬ (n : Int) < (f : Int) + 1 := by omega
  have hf1 : ¬ (f : Int) + 1 < 1 := by omega
  have ht1 : ¬ (t : Int) + 1 < 1 := by omega
  have htf : ¬ (f : Int) + 1 ≤ (t : Int) + 1 := by omega
  have ha2 : ¬ a < 0 := by omega
  have ha3 : ¬ el l f < a := by omega
  obtain ⟨bf0, bf1⟩ := bf
  obtain ⟨bt0, bt1⟩ := bt
  have HRP : Hid (repL l f t a = fl n (fun j => if j = t then el l t + a else if j = f then el l f - a else el l j)) := Lib.hid (by unfold repL; rw [HL.out])
  have HO := Lib.hid (Own.empty w w.heap.size (Nat.le_refl _))
  have HI := Lib.hid (H.out.alloc (.cells #[] 3))
  clear gs h hs hin
  go_enter Try.func35, Try.ntmps35
  go_wp2_with fail
  refine (G.out).mono ?_
  rintro e w' ⟨rfl, rfl⟩
  go_wp2_with (at_builtin; refine wpList_append_ints _ w.heap.size _ [] (some ad) n c l rfl _ _ rfl rfl rfl HO.out (by simp) HI.out (by rw [HL.out]; simp; omega) ?_)
  intro v w1 hv hb0
  have hb := ((Below.refl w.heap.size w).alloc (Nat.le_refl _) (.cells #[] 3)).trans hb0
  clear hb0
  obtain ⟨g, c2, hvv, hg, hc2, hm2, hrow⟩ := hv.asRow (by rw [HL.out]; omega)
  rw [HL.out] at hvv hc2 hrow
  subst hvv
  have cf := hrow.cell f hf
  have ff := hrow.free f
  have ft := hrow.free t
  have r1 := hrow.set f (el l f - a)
  have ct : (w1.setCell ⟨g, f, none⟩ (.int .i64 (el l f - a))).cell? ⟨g, t, none⟩ = some (.int .i64 (el l t)) := by
    rw [r1.cell t (by omega), if_neg (by omega)]
  have r2 := r1.set t (el l t + a)
  have hI := (r2.ints (c := c2) (Nat.le_trans (Nat.le_refl n) hc2) hm2 (by omega) (fun q hq => by
    have := inB_el HIN.out (show q < l.length by rw [HL.out]; exact hq)
    by_cases h1 : q = t
    · rw [if_pos h1]; omega
    · rw [if_neg h1]
      by_cases h2 : q = f
      · rw [if_pos h2]; omega
      · rw [if_neg h2]; omega))
  rw [← HRP.out] at hI
  have HII := Lib.hid hI
  have HB := Lib.hid hb
  have HG := Lib.hid hg
  clear hI hb hg hv r1 r2 hrow hc hl
  generalize el l f = x at *
  generalize el l t = y at *
  go_wp2
  go_returns
  exact ⟨_, _, _, rfl, HII.out, (HB.out.setCell HG.out _).setCell HG.out _, fun ad e => by injection e with e; subst e; exact HG.out⟩

theorem Repair_ref {A : Option Addr} {n c : Nat} {l : List Int} (f t a : Int) (w : World) (h : Ints w A n c l) :
    Calls Try.prog 35 #[.slice A n c, .int .i64 f, .int .i64 t, .int .i64 a] w (RetL (RepV l f t a).1 (RepV l f t a).2 w) := by
  have gs := Stock_ref w h
  unfold RepV
  cases hs : stockB l
  · rw [hs] at gs
    rw [if_pos rfl]
    exact Repair_noR f t a w h.cap h.max gs
  · rw [if_neg (by decide), h.len]
    rw [hs] at gs
    by_cases h0 : f < 1
    · rw [if_neg (by omega)]; exact Repair_rngR0 f t a w h.cap h.max gs h0
    by_cases h1 : (n : Int) < f
    · rw [if_neg (by omega)]; exact Repair_rngR1 f t a w h.cap h.max gs h0 h1
    by_cases h2 : t < 1
    · rw [if_neg (by omega)]; exact Repair_rngR2 f t a w h.cap h.max gs h0 h1 h2
    by_cases h3 : f ≤ t
    · rw [if_neg (by omega)]; exact Repair_rngR3 f t a w h.cap h.max gs h0 h1 h2 h3
    by_cases h4 : a < 0
    · rw [if_neg (by omega)]; exact Repair_rngR4 f t a w h.cap h.max gs h0 h1 h2 h3 h4
    obtain ⟨F, rfl⟩ : ∃ F : Nat, f = (F : Int) + 1 := ⟨(f - 1).toNat, by omega⟩
    rw [show ((F : Int) + 1).toNat - 1 = F by omega]
    by_cases h5 : el l F < a
    · rw [if_neg (by omega)]; exact Repair_rngR5 F t a w h gs (by omega) h2 (by omega) h4 h5
    obtain ⟨T, rfl⟩ : ∃ T : Nat, t = (T : Int) + 1 := ⟨(t - 1).toNat, by omega⟩
    rw [show ((T : Int) + 1).toNat - 1 = T by omega, if_pos (by omega)]
    exact Repair_inR F T a w h hs (by omega) (by omega) (by omega) (by omega)
end Go.Proofs.Ytihaabdgligbbaa
