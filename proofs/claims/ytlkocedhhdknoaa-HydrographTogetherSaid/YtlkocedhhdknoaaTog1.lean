/- The law HydrographTogether returns true. -/
import Derived.Test.YtlkocedhhdknoaaTogLaw
import Derived.Test.YtlkocedhhdknoaaLawD
import Derived.Test.YtlkocedhhdknoaaPeak
import Derived.Deep.QuietTactic
import Derived.BigQuiet
import Derived.IntWalk
namespace Go.Proofs.Ytlkocedhhdknoaa
open Go.RowKit
set_option linter.unusedVariables false

theorem q_of {P : Program} {f : FuncId} {args : Array Value} {w : World} {n : Nat} {v : Value}
    (h : Calls P f args (w.drewN n) fun e w' => e = .returned v ∧ w.drewN n = w') : Calls P f args (w.drewN n) fun e w'' => e = .returned v ∧ ∃ m, w'' = w.drewN m :=
  h.mono fun _ _ ⟨he, hm⟩ => ⟨he, n, hm.symm⟩
theorem q_add {P : Program} {f : FuncId} {args : Array Value} {w : World} {a n : Nat} {v : Value}
    (h : Calls P f args (w.drewN (a + n)) fun e w' => e = .returned v ∧ w.drewN (a + n) = w') : Calls P f args (w.drewN (a + n)) fun e w'' => e = .returned v ∧ ∃ m, w'' = w.drewN (a + m) :=
  h.mono fun _ _ ⟨he, hm⟩ => ⟨he, n, hm.symm⟩

set_option maxHeartbeats 600000 in
theorem at_closure {A : Option Addr} {n c : Nat} {us : List Int} (i : Int) (b : Nat) (w : World) (hi0 : -1000000 ≤ i) (hi1 : i ≤ 1000000) (hu : 1 ≤ us.length) (hc : w.cell? ⟨b, 0, none⟩ = some (.slice A n c)) (h : Ints w A n c (curveL us)) :
    Calls Try.prog 29 #[.int .i64 i, .pointer (some ⟨b, 0, none⟩)] w fun e w' => e = .returned (.int .i64 (atV us i)) ∧ w = w' := by
  have hn : us.length = n := by rw [← h.len, curveL_length]
  have hcap := h.cap
  have hmax := h.max
  by_cases h0 : i < 0
  · rw [atV_neg h0]
    clear h hc
    go_enter Try.func29, Try.ntmps29
    go_wp2
    go_ret
    exact ⟨rfl, rfl⟩
  · obtain ⟨q, rfl⟩ : ∃ q : Nat, i = q := ⟨i.toNat, by omega⟩
    have he := atV_el hu q
    rw [hn] at he
    obtain ⟨ad, hA, hl, hcl⟩ := h.at_ (show min q (n - 1) < n by omega)
    subst hA
    rw [he] at hcl
    generalize atV us (q : Int) = x at *
    obtain ⟨p, hp⟩ : ∃ p : Nat, (n : Int) - 1 = p := ⟨n - 1, by omega⟩
    have hpn : n - 1 = p := by omega
    rw [hpn] at hcl
    obtain ⟨M, hM⟩ : ∃ M : Nat, min q p = M := ⟨_, rfl⟩
    have hmin : min (q : Int) (p : Int) = (M : Int) := by omega
    have hMn : M < n := by omega
    rw [hM] at hcl
    clear h he hu hn hpn hM
    go_enter Try.func29, Try.ntmps29
    go_wp2
    go_ret
    exact ⟨rfl, rfl⟩

set_option maxRecDepth 100000 in
set_option maxHeartbeats 2000000 in
theorem Together_out {A : Option Addr} {n c : Nat} {us : List Int} (k nn b st r f : Int) (w : World) (h : Ints w A n c us)
    (hno : ¬ ((n : Int) ≤ 40 ∧ 1 ≤ k ∧ k ≤ 40 ∧ validB us = true ∧ 1 ≤ nn ∧ nn ≤ 10 ∧ 1 ≤ b ∧ b ≤ 1000 ∧ 1 ≤ st ∧ st ≤ 60 ∧ 1 ≤ r ∧ r ≤ 100 ∧ 1 ≤ f ∧ f ≤ 100)) :
    Calls Try.prog 7 #[.slice A n c, .int .i64 k, .int .i64 nn, .int .i64 b, .int .i64 st, .int .i64 r, .int .i64 f] w fun e w' => e = .returned (.bool true) ∧ Below w.heap.size w w' := by
  have hcap := h.cap
  have hmax := h.max
  have H := Lib.hid h
  have V := Lib.hid (fun W (I : Ints W A n c us) => Valid_ref (A := A) (n := n) (c := c) (zs := us) W I)
  have hno' : 40 < (n : Int) ∨ (¬ 40 < (n : Int) ∧ (k < 1 ∨ (¬ k < 1 ∧ (40 < k ∨ (¬ 40 < k ∧ (validB us = false ∨ (validB us = true ∧ (nn < 1 ∨ (¬ nn < 1 ∧ (10 < nn ∨ (¬ 10 < nn ∧ (b < 1 ∨ (¬ b < 1 ∧ (1000 < b ∨ (¬ 1000 < b ∧ (st < 1 ∨ (¬ st < 1 ∧ (60 < st ∨ (¬ 60 < st ∧ (r < 1 ∨ (¬ r < 1 ∧ (100 < r ∨ (¬ 100 < r ∧ (f < 1 ∨ (¬ f < 1 ∧ 100 < f))))))))))))))))))))))))) := by
    by_cases p0 : 40 < (n : Int)
    · exact .inl p0
    refine .inr ⟨p0, ?_⟩
    by_cases p1 : k < 1
    · exact .inl p1
    refine .inr ⟨p1, ?_⟩
    by_cases p2 : 40 < k
    · exact .inl p2
    refine .inr ⟨p2, ?_⟩
    cases p3 : validB us
    · exact .inl rfl
    refine .inr ⟨rfl, ?_⟩
    by_cases p4 : nn < 1
    · exact .inl p4
    refine .inr ⟨p4, ?_⟩
    by_cases p5 : 10 < nn
    · exact .inl p5
    refine .inr ⟨p5, ?_⟩
    by_cases p6 : b < 1
    · exact .inl p6
    refine .inr ⟨p6, ?_⟩
    by_cases p7 : 1000 < b
    · exact .inl p7
    refine .inr ⟨p7, ?_⟩
    by_cases p8 : st < 1
    · exact .inl p8
    refine .inr ⟨p8, ?_⟩
    by_cases p9 : 60 < st
    · exact .inl p9
    refine .inr ⟨p9, ?_⟩
    by_cases p10 : r < 1
    · exact .inl p10
    refine .inr ⟨p10, ?_⟩
    by_cases p11 : 100 < r
    · exact .inl p11
    refine .inr ⟨p11, ?_⟩
    by_cases p12 : f < 1
    · exact .inl p12
    refine .inr ⟨p12, ?_⟩
    by_cases p13 : 100 < f
    · exact p13
    exact absurd ⟨by omega, by omega, by omega, p3, by omega, by omega, by omega, by omega, by omega, by omega, by omega, by omega, by omega, by omega⟩ hno
  have HN := Lib.hid hno'
  clear h hno hno'
  go_enter Try.func7, Try.ntmps7
  go_wp2_with fail
  refine (awake_calls _).mono ?_
  rintro e w1 ⟨rfl, b1⟩
  have B1 := Lib.hid b1
  have VW := Lib.hid (V.out w1 (H.out.below b1))
  clear b1 V
  rcases HN.out with h0 | ⟨h0, h1 | ⟨h1, h2 | ⟨h2, h3 | ⟨h3, h4⟩⟩⟩⟩
  · go_wp2
    go_ret
    exact ⟨rfl, B1.out⟩
  · go_wp2
    go_ret
    exact ⟨rfl, B1.out⟩
  · go_wp2
    go_ret
    exact ⟨rfl, B1.out⟩
  · rw [h3] at VW
    clear h3 HN
    go_wp2_with fail
    refine VW.out.mono ?_
    rintro e w2 ⟨rfl, rfl⟩
    go_wp2
    go_ret
    exact ⟨rfl, B1.out⟩
  · rw [h3] at VW
    have H4 := Lib.hid h4
    clear h3 h4 HN
    go_wp2_with fail
    refine VW.out.mono ?_
    rintro e w2 ⟨rfl, rfl⟩
    rcases H4.out with h4 | ⟨h4, h5 | ⟨h5, h6 | ⟨h6, h7 | ⟨h7, h8 | ⟨h8, h9 | ⟨h9, h10 | ⟨h10, h11 | ⟨h11, h12 | ⟨h12, h13⟩⟩⟩⟩⟩⟩⟩⟩⟩
    all_goals
      go_wp2
      go_ret
      exact ⟨rfl, B1.out⟩
end Go.Proofs.Ytlkocedhhdknoaa
