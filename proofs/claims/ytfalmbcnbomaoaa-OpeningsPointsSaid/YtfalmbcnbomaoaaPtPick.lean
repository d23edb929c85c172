/- The law's closure: a number of a span; whether a span holds a number. -/
import Derived.Test.YtfalmbcnbomaoaaPtLaw
import Derived.Deep.QuietTactic
import Derived.BigQuiet
import Derived.IntWalk
namespace Go.Proofs.Ytfalmbcnbomaoaa
open Go.Proofs.Ytfalmbcnbomaoaa.DivLaw Go.Proofs.Ytfalmbcnbomaoaa.Open Go.RowKit
set_option linter.unusedVariables false

theorem bel_drewN {B : Nat} {a w : World} (h : Below B a w) (n : Nat) : Below B a (w.drewN n) := ⟨h.os, h.tape, h.output, h.size, h.block⟩
def pickV (lo hi n : Int) : Int := lo + n % (hi - lo + 1)
theorem validB_parts {lo hi : Int} (h : validB lo hi = true) : lo ≤ hi ∧ -72057594037927936 ≤ lo ∧ hi ≤ 72057594037927936 := by
  unfold validB at h; simpa using h
theorem pickV_in {lo hi n : Int} (h : lo ≤ hi) : lo ≤ pickV lo hi n ∧ pickV lo hi n ≤ hi := by
  unfold pickV
  have a1 := Int.emod_nonneg n (show hi - lo + 1 ≠ 0 by omega)
  have a2 := Int.emod_lt_of_pos n (show 0 < hi - lo + 1 by omega)
  omega

set_option maxHeartbeats 1000000 in
set_option maxRecDepth 100000 in
theorem pick_calls (lo hi n : Int) (h : validB lo hi = true) (hn : 0 ≤ n ∧ n ≤ 4294967295) (w : World) :
    Calls Try.prog 36 #[.agg #[.int .i64 lo, .int .i64 hi], .int .u32 n] w fun e w' => e = .returned (.int .i64 (pickV lo hi n)) ∧ Below w.heap.size w w' := by
  obtain ⟨h1, h2, h3⟩ := validB_parts h
  obtain ⟨n0, n1⟩ := hn
  have hv : pickV lo hi n = lo + n % (hi - lo + 1) := rfl
  have hb := pickV_in (n := n) h1
  obtain ⟨V, hV⟩ : ∃ V, pickV lo hi n = V := ⟨_, rfl⟩
  rw [hV] at hv hb ⊢
  obtain ⟨p0, p1, pz, pl⟩ := AtS.new_ lo hi 46 w
  obtain ⟨D, hD⟩ : ∃ D : Nat, hi - lo + 1 = D := ⟨(hi - lo + 1).toNat, by omega⟩
  rw [hD] at hv
  obtain ⟨R, hR⟩ : ∃ R : Int, n % (D : Int) = R := ⟨_, rfl⟩
  obtain ⟨E, hE⟩ : ∃ E : Int, hi - lo = E := ⟨_, rfl⟩
  rw [hR] at hv
  have hr : 0 ≤ R ∧ R ≤ 4294967295 := by
    have a1 := Int.emod_nonneg n (show (D : Int) ≠ 0 by omega)
    obtain ⟨N, rfl⟩ : ∃ N : Nat, n = N := ⟨n.toNat, by omega⟩
    have a2 := Nat.mod_le N D
    rw [← hR, ← Int.natCast_emod] at *
    omega
  have e1 : IntKind.i64.wrap (hi - lo) = E := by rw [hE]; exact IntWalk.i64_in _ (by omega)
  have e2 : IntKind.i64.wrap (E + 1) = (D : Int) := by rw [← hE, hD]; exact IntWalk.i64_in _ (by omega)
  have e3 : n.tmod (D : Int) = R := by rw [Int.tmod_eq_emod_of_nonneg n0, hR]
  have e4 : IntKind.i64.wrap (lo + R) = V := by rw [← hv]; exact IntWalk.i64_in _ (by omega)
  have e5 : IntKind.i64.wrap n = n := IntWalk.i64_in _ (by omega)
  have e6 : ¬ D = 0 := by omega
  clear h hv hb hV hD hR hE hr
  go_enter Try.func36, Try.ntmps36
  go_wp2
  go_quiet (fail)
  clear e1 e2 e3 e4 e5
  go_wp2
  go_ret
  exact ⟨rfl, bel_drewN ((Below.refl _ _).alloc (Nat.le_refl _) _) _⟩

set_option maxHeartbeats 1000000 in
theorem Has_calls (lo hi n : Int) (h : lo ≤ n ∧ n ≤ hi) (w : World) :
    Calls Try.prog 37 #[.agg #[.int .i64 lo, .int .i64 hi], .int .i64 n] w fun e w' => e = .returned (.bool true) ∧ Below w.heap.size w w' := by
  obtain ⟨h1, h2⟩ := h
  obtain ⟨p0, p1, pz, pl⟩ := AtS.new_ lo hi 46 w
  go_enter Try.func37, Try.ntmps37
  go_wp2
  go_ret
  exact ⟨rfl, (Below.refl _ _).alloc (Nat.le_refl _) _⟩
end Go.Proofs.Ytfalmbcnbomaoaa
