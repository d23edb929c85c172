/- Whether a table is large; the chapter's example. -/
import Derived.Test.YtihaabdgligbbaaSum
import Derived.Test.YtihaabdgligbbaaOwn
namespace Go.Proofs.Ytihaabdgligbbaa
open Go.RowKit
set_option linter.unusedVariables false

def big20 (l : List Int) : Bool := decide (20 < (l.length : Int))
theorem large1_calls {A : Option Addr} {n c : Nat} {l : List Int} (w : World) (h : Ints w A n c l) :
    Calls Try.prog 41 #[.slice A n c] w fun e w' => e = .returned (.bool (big20 l)) ∧ w = w' := by
  unfold big20
  rw [h.len]
  have hcap := h.cap
  have hmax := h.max
  clear h
  go_enter Try.func41, Try.ntmps41
  go_wp2
  go_ret
  exact ⟨rfl, rfl⟩

theorem anyT_take {p : List Int → Bool} {ts : List (List Int)} (h : ∀ j, j < ts.length → p (tl ts j) = false) : ts.any p = false := by
  rw [List.any_eq_false]
  intro x hx
  obtain ⟨i, hi, rfl⟩ := tl_of_mem hx
  simpa using h i hi
theorem anyT_at {p : List Int → Bool} {ts : List (List Int)} {k : Nat} (hk : k < ts.length) (h : p (tl ts k) = true) : ts.any p = true :=
  List.any_eq_true.2 ⟨_, tl_mem hk, h⟩
def FoundT (p : List Int → Bool) (zs : List (List Int)) (w : World) (e : Ending) (w' : World) : Prop := ∃ r : Int, e = .returned (.int .i64 r) ∧ w = w' ∧ -1 ≤ r ∧ r ≤ 17592186044416 ∧ zs.any p = decide (0 ≤ r)

set_option maxHeartbeats 1000000 in
theorem indexFunc_rows {A : Option Addr} {n c : Nat} {ts : List (List Int)} (w : World) (h : Tab w A n c ts) :
    Calls Try.prog 60 #[.slice A n c, .func (.func 41) #[] #[]] w (FoundT big20 ts w) := by
  have hcap := h.cap
  have hmax := h.max
  have hfew := h.few
  have HL := Lib.hid h.len
  have H := Lib.hid h
  clear h
  go_enter Try.func60, Try.ntmps60
  go_wp2
  go_loop [8] (fun i => ∃ k : Nat, k ≤ n ∧ i = .int .i64 k ∧ ∀ j, j < k → big20 (tl ts j) = false) (fun i => n - (intOf i).toNat)
  case atStart => exact ⟨0, Nat.zero_le _, rfl, fun j hj => absurd hj (by omega)⟩
  case round =>
    obtain ⟨k, hk, rfl, hno⟩ := hrel
    have HN := Lib.hid hno
    clear hno
    by_cases hlt : k < n
    · obtain ⟨ad, A', n', c', rfl, hl, hc, hi⟩ := H.out.at_ hlt
      have hcl := large1_calls w hi
      clear hi
      cases hbad : big20 (tl ts k)
      · have HB := Lib.hid hbad
        rw [hbad] at hcl
        have HCL := Lib.hid hcl
        clear hbad hcl
        go_wp2_with fail
        refine (HCL.out).mono ?_
        rintro e w' ⟨rfl, rfl⟩
        go_wp2
        go_round
        case rel => exact ⟨k + 1, by omega, by go_num, fun j hj => by
          by_cases hjk : j = k
          · subst hjk; exact HB.out
          · exact HN.out j (by omega)⟩
        case measure => simp [intOf]; try omega
      · have HB := Lib.hid hbad
        rw [hbad] at hcl
        have HCL := Lib.hid hcl
        clear hbad hcl
        go_wp2_with fail
        refine (HCL.out).mono ?_
        rintro e w' ⟨rfl, rfl⟩
        go_wp2
        go_ret
        exact ⟨k, rfl, rfl, by omega, by omega, by rw [anyT_at (by rw [HL.out]; exact hlt) HB.out, decide_eq_true (by omega)]⟩
    · go_wp2
      go_ret
      exact ⟨-1, rfl, rfl, by omega, by omega, by rw [anyT_take (fun j hj => HN.out j (by rw [HL.out] at hj; omega))]; rfl⟩

theorem containsFunc_rows {A : Option Addr} {n c : Nat} {ts : List (List Int)} (w : World) (h : Tab w A n c ts) :
    Calls Try.prog 40 #[.slice A n c, .func (.func 41) #[] #[]] w fun e w' => e = .returned (.bool (ts.any big20)) ∧ w = w' := by
  have HI := Lib.hid (indexFunc_rows w h)
  clear h
  go_enter Try.func40, Try.ntmps40
  go_wp2_with fail
  refine (HI.out).mono ?_
  rintro e w' ⟨r, rfl, rfl, hr0, hr1, hr⟩
  have HR := Lib.hid hr
  clear hr
  go_wp2
  go_ret
  exact ⟨ret_b HR.out.symm, rfl⟩

def largeB (ts : List (List Int)) : Bool := decide (20 < (ts.length : Int)) || ts.any big20
theorem large_calls {A : Option Addr} {n c : Nat} {ts : List (List Int)} (w : World) (h : Tab w A n c ts) :
    Calls Try.prog 12 #[.slice A n c] w fun e w' => e = .returned (.bool (largeB ts)) ∧ w = w' := by
  have hcf := containsFunc_rows w h
  unfold largeB
  rw [h.len]
  have hcap := h.cap
  have hmax := h.max
  generalize ts.any big20 = q at *
  have HCF := Lib.hid hcf
  clear h hcf
  by_cases g : (20 : Int) < n
  · rw [decide_eq_true g, Bool.true_or]
    go_enter Try.func12, Try.ntmps12
    go_wp2
    go_ret
    exact ⟨rfl, rfl⟩
  · rw [decide_eq_false g, Bool.false_or]
    go_enter Try.func12, Try.ntmps12
    go_wp2_with fail
    refine (HCF.out).mono ?_
    rintro e w' ⟨rfl, rfl⟩
    go_wp2
    go_ret
    exact ⟨rfl, rfl⟩

/-- The chapter's table. -/
def exT : List (List Int) := [[900000, 100000, 0], [0, 800000, 200000], [0, 0, 1000000]]
theorem Tab.lit3 {w : World} {p : Nat} {A0 A1 A2 : Option Addr} {n0 n1 n2 c0 c1 c2 : Nat} {z0 z1 z2 : List Int}
    (h0 : Ints w A0 n0 c0 z0) (h1 : Ints w A1 n1 c1 z1) (h2 : Ints w A2 n2 c2 z2) :
    Tab (w.alloc (.cells #[.slice A0 n0 c0, .slice A1 n1 c1, .slice A2 n2 c2] 23)) (some ⟨w.heap.size, 0, none⟩) 3 3 [z0, z1, z2] := by
  refine ⟨rfl, Nat.le_refl _, by omega, by omega, fun _ => ⟨_, rfl, by simp, fun j hj => ?_⟩, fun e => by cases e⟩
  rw [show (⟨w.heap.size, 0, none⟩ : Addr).add j = ⟨w.heap.size, j, none⟩ from by rw [Addr.add_lit, Nat.zero_add], World.cell?_alloc_new]
  match j, hj with
  | 0, _ => exact ⟨A0, n0, c0, rfl, h0.alloc _⟩
  | 1, _ => exact ⟨A1, n1, c1, rfl, h1.alloc _⟩
  | 2, _ => exact ⟨A2, n2, c2, rfl, h2.alloc _⟩
theorem example_calls (w : World) : Calls Try.prog 39 #[] w fun e w' => ∃ A, e = .returned (.slice A 3 3) ∧ Tab w' A 3 3 exT ∧ Below w.heap.size w w' := by
  obtain ⟨o0, e0⟩ : ∃ o, o = Obj.cells (Cells [900000, 100000, 0]).toArray 3 := ⟨_, rfl⟩
  obtain ⟨o1, e1⟩ : ∃ o, o = Obj.cells (Cells [0, 800000, 200000]).toArray 3 := ⟨_, rfl⟩
  obtain ⟨o2, e2⟩ : ∃ o, o = Obj.cells (Cells [0, 0, 1000000]).toArray 3 := ⟨_, rfl⟩
  have i0 : Ints (((w.alloc o0).alloc o1).alloc o2) (some ⟨w.heap.size, 0, none⟩) 3 3 [900000, 100000, 0] := by
    subst e0; exact ((Ints.lit w [900000, 100000, 0] (by decide) (by decide)).alloc o1).alloc o2
  have i1 : Ints (((w.alloc o0).alloc o1).alloc o2) (some ⟨w.heap.size + 1, 0, none⟩) 3 3 [0, 800000, 200000] := by
    subst e1
    have h := (Ints.lit (w.alloc o0) [0, 800000, 200000] (by decide) (by decide)).alloc o2
    rw [World.size_alloc] at h; exact h
  have i2 : Ints (((w.alloc o0).alloc o1).alloc o2) (some ⟨w.heap.size + 2, 0, none⟩) 3 3 [0, 0, 1000000] := by
    subst e2
    have h := (Ints.lit ((w.alloc o0).alloc o1) [0, 0, 1000000] (by decide) (by decide))
    rw [World.size_alloc, World.size_alloc] at h; exact h
  have T := Lib.hid (Tab.lit3 (p := 0) i0 i1 i2)
  have BB : Hid (Below w.heap.size w ((((w.alloc o0).alloc o1).alloc o2).alloc (.cells #[.slice (some ⟨w.heap.size, 0, none⟩) 3 3, .slice (some ⟨w.heap.size + 1, 0, none⟩) 3 3, .slice (some ⟨w.heap.size + 2, 0, none⟩) 3 3] 23))) :=
    Lib.hid (((((Below.refl _ _).alloc (Nat.le_refl _) o0).alloc (by simp) o1).alloc (by simp; omega) o2).alloc (by simp; omega) _)
  clear i0 i1 i2
  rw [World.size_alloc, World.size_alloc, World.size_alloc] at T
  subst e0 e1 e2
  go_enter Try.func39, Try.ntmps39
  go_wp2
  go_ret
  exact ⟨_, rfl, T.out, BB.out⟩
end Go.Proofs.Ytihaabdgligbbaa
