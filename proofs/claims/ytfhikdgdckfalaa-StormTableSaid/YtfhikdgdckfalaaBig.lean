/- big: whether a table has too many durations or periods. What it answers is left open. -/
import Derived.Test.YtfhikdgdckfalaaMB04
import Derived.Test.YtfhikdgdckfalaaMB02
namespace Go.Proofs.Ytfhikdgdckfalaa
open Go.RowKit
set_option linter.unusedVariables false

def SomeB (e : Ending) : Prop := ∃ b, e = .returned (.bool b)
theorem someB (b : Bool) : SomeB (.returned (.bool b)) := ⟨b, rfl⟩
theorem big1_calls {A : Option Addr} {n c : Nat} {zs : List Int} (w : World) (h : Ints w A n c zs) :
    Calls Try.prog 50 #[.slice A n c] w fun e w' => SomeB e ∧ w = w' := by
  have hcap := h.cap
  have hmax := h.max
  clear h
  by_cases hn : 150 < (n : Int)
  · go_enter Try.func50, Try.ntmps50
    go_wp2
    go_ret
    exact ⟨someB _, rfl⟩
  · go_enter Try.func50, Try.ntmps50
    go_wp2
    go_ret
    exact ⟨someB _, rfl⟩

set_option maxHeartbeats 1000000 in
theorem indexFunc_big {A : Option Addr} {n c : Nat} {ts : List (List Int)} (w : World) (h : Tab w A n c ts) :
    Calls Try.prog 67 #[.slice A n c, .func (.func 50) #[] #[]] w fun e w' => (∃ r : Int, e = .returned (.int .i64 r) ∧ -1 ≤ r ∧ r ≤ n) ∧ w = w' := by
  have hcap := h.cap
  have hmax := h.max
  have hfew := h.few
  have H := Lib.hid h
  clear h
  go_enter Try.func67, Try.ntmps67
  go_wp2
  go_loop [8] (fun i => ∃ k : Nat, k ≤ n ∧ i = .int .i64 k) (fun i => n - (intOf i).toNat)
  case atStart => exact ⟨0, Nat.zero_le _, rfl⟩
  case round =>
    obtain ⟨k, hk, rfl⟩ := hrel
    by_cases hlt : k < n
    · obtain ⟨ad, A', n', c', rfl, hl, hc, hI⟩ := H.out.at_ hlt
      have HCL := Lib.hid (big1_calls w hI)
      clear hI
      go_wp2_with fail
      refine (HCL.out).mono ?_
      rintro e w' ⟨⟨b, rfl⟩, rfl⟩
      cases b
      · go_wp2
        go_round
        case rel => exact ⟨k + 1, by omega, by go_num⟩
        case measure => simp [intOf]; try omega
      · go_wp2
        go_ret
        exact ⟨⟨k, rfl, by omega, by omega⟩, rfl⟩
    · go_wp2
      go_ret
      exact ⟨⟨-1, rfl, by omega, by omega⟩, rfl⟩
theorem containsFunc_big {A : Option Addr} {n c : Nat} {ts : List (List Int)} (w : World) (h : Tab w A n c ts) :
    Calls Try.prog 49 #[.slice A n c, .func (.func 50) #[] #[]] w fun e w' => SomeB e ∧ w = w' := by
  have HI := Lib.hid (indexFunc_big w h)
  clear h
  go_enter Try.func49, Try.ntmps49
  go_wp2_with fail
  refine (HI.out).mono ?_
  rintro e w' ⟨⟨r, rfl, hr0, hr1⟩, rfl⟩
  go_wp2
  go_ret
  exact ⟨someB _, rfl⟩

set_option maxRecDepth 100000 in
set_option maxHeartbeats 4000000 in
theorem big_calls {A0 A1 A2 : Option Addr} {n0 c0 n1 c1 n2 c2 : Nat} {ds ps : List Int} {rows : List (List Int)} (w : World) (h0 : Ints w A0 n0 c0 ds) (h1 : Ints w A1 n1 c1 ps) (h2 : Tab w A2 n2 c2 rows) :
    Calls Try.prog 16 #[tabA A0 n0 c0 A1 n1 c1 A2 n2 c2] w fun e w' => SomeB e ∧ Below w.heap.size w w' := by
  obtain ⟨W0, hW0⟩ : ∃ W0, w.alloc (tabO A0 n0 c0 A1 n1 c1 A2 n2 c2) = W0 := ⟨_, rfl⟩
  have hb0 : Below w.heap.size w W0 := by rw [← hW0]; exact (Below.refl _ _).alloc (Nat.le_refl _) _
  have x0 : HBox W0 w.heap.size (.slice A0 n0 c0) (.slice A1 n1 c1) (.slice A2 n2 c2) := by rw [← hW0]; exact HBox.made _ _ _ _ _
  have CF := Lib.hid (containsFunc_big W0 (h2.below hb0))
  have B0 := Lib.hid hb0
  have q0 := h0.cap
  have q1 := h1.cap
  have q2 := h2.cap
  have r0 := h0.max
  have r1 := h1.max
  have r2 := h2.max
  obtain ⟨k0, k1, k2, kl⟩ : W0.cell? ⟨w.heap.size, 0, none⟩ = some (.slice A0 n0 c0) ∧ W0.cell? ⟨w.heap.size, 1, none⟩ = some (.slice A1 n1 c1) ∧ W0.cell? ⟨w.heap.size, 2, none⟩ = some (.slice A2 n2 c2) ∧ w.heap.size < W0.heap.size := ⟨x0.c0, x0.c1, x0.c2, x0.lt⟩
  clear h0 h1 h2 hb0 x0
  go_enter Try.func16, Try.ntmps16
  by_cases a1 : 12 < (n0 : Int)
  ·
    by_cases a2 : (n0 : Int) ≤ 100
    ·
      go_wp2
      go_ret
      exact ⟨someB _, B0.out⟩
    ·
      by_cases a3 : 150 < (n0 : Int)
      ·
        go_wp2
        go_ret
        exact ⟨someB _, B0.out⟩
      ·
        by_cases a4 : 12 < (n1 : Int)
        ·
          by_cases a5 : (n1 : Int) ≤ 20
          ·
            go_wp2
            go_ret
            exact ⟨someB _, B0.out⟩
          ·
            by_cases a6 : 150 < (n1 : Int)
            ·
              go_wp2
              go_ret
              exact ⟨someB _, B0.out⟩
            ·
              by_cases a7 : 150 < (n2 : Int)
              ·
                go_wp2
                go_ret
                exact ⟨someB _, B0.out⟩
              ·
                go_wp2_with fail
                refine (CF.out).mono ?_
                rintro e w2 ⟨⟨b, rfl⟩, rfl⟩
                go_wp2
                go_ret
                exact ⟨someB _, B0.out⟩
        ·
          by_cases a7 : 150 < (n2 : Int)
          ·
            go_wp2
            go_ret
            exact ⟨someB _, B0.out⟩
          ·
            go_wp2_with fail
            refine (CF.out).mono ?_
            rintro e w2 ⟨⟨b, rfl⟩, rfl⟩
            go_wp2
            go_ret
            exact ⟨someB _, B0.out⟩
  ·
    by_cases a4 : 12 < (n1 : Int)
    ·
      by_cases a5 : (n1 : Int) ≤ 20
      ·
        go_wp2
        go_ret
        exact ⟨someB _, B0.out⟩
      ·
        by_cases a6 : 150 < (n1 : Int)
        ·
          go_wp2
          go_ret
          exact ⟨someB _, B0.out⟩
        ·
          by_cases a7 : 150 < (n2 : Int)
          ·
            go_wp2
            go_ret
            exact ⟨someB _, B0.out⟩
          ·
            go_wp2_with fail
            refine (CF.out).mono ?_
            rintro e w2 ⟨⟨b, rfl⟩, rfl⟩
            go_wp2
            go_ret
            exact ⟨someB _, B0.out⟩
    ·
      by_cases a7 : 150 < (n2 : Int)
      ·
        go_wp2
        go_ret
        exact ⟨someB _, B0.out⟩
      ·
        go_wp2_with fail
        refine (CF.out).mono ?_
        rintro e w2 ⟨⟨b, rfl⟩, rfl⟩
        go_wp2
        go_ret
        exact ⟨someB _, B0.out⟩
end Go.Proofs.Ytfhikdgdckfalaa
