/- Looking through a list for a number outside a range: slices.IndexFunc, slices.ContainsFunc with the program's closure; what is valid. -/
import Derived.Test.YtlkocedhhdknoaaSlices
import Derived.Handy
namespace Go.Proofs.Ytlkocedhhdknoaa
open Go.RowKit
set_option linter.unusedVariables false

/-- Whether z lies outside 0 .. m. -/
def badB (m z : Int) : Bool := decide (z < 0) || decide (m < z)
def anyBad (m : Int) (zs : List Int) : Bool := zs.any (badB m)
def inB (m : Int) (zs : List Int) : Bool := !anyBad m zs
theorem any_take {p : Int → Bool} {zs : List Int} (h : ∀ j, j < zs.length → p (el zs j) = false) : zs.any p = false := by
  rw [List.any_eq_false]
  intro x hx
  obtain ⟨i, hi, rfl⟩ := List.getElem_of_mem hx
  have := h i hi
  unfold el at this
  rw [List.getD_eq_getElem?_getD, List.getElem?_eq_getElem hi] at this
  simpa using this
theorem any_at {p : Int → Bool} {zs : List Int} {k : Nat} (hk : k < zs.length) (h : p (el zs k) = true) : zs.any p = true :=
  List.any_eq_true.2 ⟨_, el_mem hk, h⟩
theorem inB_iff {m : Int} {zs : List Int} : inB m zs = true ↔ ∀ z ∈ zs, 0 ≤ z ∧ z ≤ m := by
  unfold inB anyBad
  rw [Bool.not_eq_true', List.any_eq_false]
  constructor
  · intro h z hz
    have := h z hz
    unfold badB at this
    simp at this
    omega
  · intro h z hz
    have := h z hz
    unfold badB
    simp
    omega
theorem inB_el {m : Int} {zs : List Int} (h : inB m zs = true) {k : Nat} (hk : k < zs.length) : 0 ≤ el zs k ∧ el zs k ≤ m := inB_iff.1 h _ (el_mem hk)

theorem within1_calls (z m : Int) (b : Nat) (w : World) (hc : w.cell? ⟨b, 0, none⟩ = some (.int .i64 m)) :
    Calls Try.prog 55 #[.int .i64 z, .pointer (some ⟨b, 0, none⟩)] w fun e w' => e = .returned (.bool (badB m z)) ∧ w = w' := by
  unfold badB
  by_cases h : z < 0
  · rw [decide_eq_true h, Bool.true_or]
    go_enter Try.func55, Try.ntmps55
    go_wp2
    go_ret
    exact ⟨rfl, rfl⟩
  · rw [decide_eq_false h, Bool.false_or]
    go_enter Try.func55, Try.ntmps55
    go_wp2
    go_ret
    exact ⟨rfl, rfl⟩

/-- A place where p holds, or -1. -/
def Found (p : Int → Bool) (zs : List Int) (w : World) (e : Ending) (w' : World) : Prop := ∃ r : Int, e = .returned (.int .i64 r) ∧ w = w' ∧ -1 ≤ r ∧ r ≤ 17592186044416 ∧ zs.any p = decide (0 ≤ r)

set_option maxHeartbeats 1000000 in
theorem indexFunc_within {A : Option Addr} {n c : Nat} {zs : List Int} (m : Int) (b : Nat) (w : World) (h : Ints w A n c zs) (hb : w.cell? ⟨b, 0, none⟩ = some (.int .i64 m)) :
    Calls Try.prog 49 #[.slice A n c, .func (.func 55) #[] #[.pointer (some ⟨b, 0, none⟩)]] w (Found (badB m) zs w) := by
  have hcap := h.cap
  have hmax := h.max
  have hfew := h.few
  have HL := Lib.hid h.len
  have H := Lib.hid h
  have hcl := fun z => within1_calls z m b w hb
  have HC := Lib.hid hcl
  clear h hcl hb
  go_enter Try.func49, Try.ntmps49
  go_wp2
  go_loop [8] (fun i => ∃ k : Nat, k ≤ n ∧ i = .int .i64 k ∧ ∀ j, j < k → badB m (el zs j) = false) (fun i => n - (intOf i).toNat)
  case atStart => exact ⟨0, Nat.zero_le _, rfl, fun j hj => absurd hj (by omega)⟩
  case round =>
    obtain ⟨k, hk, rfl, hno⟩ := hrel
    have HN := Lib.hid hno
    clear hno
    by_cases hlt : k < n
    · obtain ⟨ad, rfl, hl, hc⟩ := H.out.at_ hlt
      cases hbad : badB m (el zs k)
      · have HB := Lib.hid hbad
        have hcl := HC.out (el zs k)
        rw [hbad] at hcl
        have HCL := Lib.hid hcl
        clear hbad hcl
        go_wp2_with fail
        refine HCL.out.mono ?_
        rintro e w' ⟨rfl, rfl⟩
        go_wp2
        go_round
        case rel => exact ⟨k + 1, by omega, by go_num, fun j hj => by
          by_cases hjk : j = k
          · subst hjk; exact HB.out
          · exact HN.out j (by omega)⟩
        case measure => simp [intOf]; try omega
      · have HB := Lib.hid hbad
        have hcl := HC.out (el zs k)
        rw [hbad] at hcl
        have HCL := Lib.hid hcl
        clear hbad hcl
        go_wp2_with fail
        refine HCL.out.mono ?_
        rintro e w' ⟨rfl, rfl⟩
        go_wp2
        go_ret
        exact ⟨k, rfl, rfl, by omega, by omega, by rw [any_at (by rw [HL.out]; exact hlt) HB.out, decide_eq_true (by omega)]⟩
    · go_wp2
      go_ret
      exact ⟨-1, rfl, rfl, by omega, by omega, by rw [any_take (fun j hj => HN.out j (by rw [HL.out] at hj; omega))]; rfl⟩

theorem containsFunc_within {A : Option Addr} {n c : Nat} {zs : List Int} (m : Int) (b : Nat) (w : World) (h : Ints w A n c zs) (hb : w.cell? ⟨b, 0, none⟩ = some (.int .i64 m)) :
    Calls Try.prog 33 #[.slice A n c, .func (.func 55) #[] #[.pointer (some ⟨b, 0, none⟩)]] w fun e w' => e = .returned (.bool (anyBad m zs)) ∧ w = w' := by
  have hi := indexFunc_within m b w h hb
  have HI := Lib.hid hi
  clear hi h hb
  go_enter Try.func33, Try.ntmps33
  go_wp2_with fail
  refine HI.out.mono ?_
  rintro e w' ⟨r, rfl, rfl, hr0, hr1, hr⟩
  have HR := Lib.hid hr
  clear hr
  go_wp2
  go_ret
  exact ⟨ret_b HR.out.symm, rfl⟩

theorem within_calls {A : Option Addr} {n c : Nat} {zs : List Int} (m : Int) (w : World) (h : Ints w A n c zs) :
    Calls Try.prog 40 #[.slice A n c, .int .i64 m] w fun e w' => e = .returned (.bool (inB m zs)) ∧ w.alloc (.cells #[.int .i64 m] 3) = w' := by
  have hmf : ∀ (fn : Fn) (first cap : Array Value) (w : World), (Instr.makeFunc fn first cap).run Try.prog w = .ok (.func fn first cap) w := fun _ _ _ _ => rfl
  have hi := containsFunc_within m w.heap.size (w.alloc (.cells #[.int .i64 m] 3)) (h.alloc _) (by rw [World.cell?_alloc_new]; rfl)
  have HI := Lib.hid hi
  unfold inB
  generalize anyBad m zs = q at *
  clear hi h
  go_enter Try.func40, Try.ntmps40
  go_wp2_with fail
  refine HI.out.mono ?_
  rintro e w' ⟨rfl, rfl⟩
  go_wp2
  go_ret
  exact ⟨rfl, rfl⟩
end Go.Proofs.Ytlkocedhhdknoaa
