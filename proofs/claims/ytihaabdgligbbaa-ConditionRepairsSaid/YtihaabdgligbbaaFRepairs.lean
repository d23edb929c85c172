/-
  ConditionRepairs returns true for every input, and each argument reads afterwards as it read before.
-/
import Derived.Test.YtihaabdgligbbaaLawF
import Derived.Test.YtihaabdgligbbaaArgs
import Derived.Test.YtihaabdgligbbaaTab
import Derived.Test.YtihaabdgligbbaaRows
import Derived.WalkKit
import Derived.ProofKit
import Derived.OpenShut
import Derived.ShutString
import Derived.ChangeOld
import Derived.Below
import Derived.SizedLaws
namespace Go.Proofs.Ytihaabdgligbbaa.lawConditionRepairs
open Go.ChangeShapes Go.WideShapes Go.ChangeAt Go.RowKit
open Go.ChangeMaps (open_string shut_string)
set_option linter.unusedVariables false

theorem own : ownKnob Try.prog.godebug = none := by kernel_rfl
theorem laidOut : laidOutB Try.prog = true := by kernel_rfl

set_option maxRecDepth 100000 in
theorem lifted (os : Os) (started : os.Started) (H : Type) (enc : TypeId × Value → H) :
    ReturnsInHanded {} Try.checked os 8 .any (Rows.conditionRepairsSpec.pre6 enc Try.prog Try.f8 Rows.conditionRepairsRow.domain false) (Rows.conditionRepairsSpec.post enc Try.prog Try.f8 false true false false) := by
  refine returnsInHanded_of_change_sized (C := Try.checked) own started (by kernel_rfl) Try.func8
    (ChangeSpec.witness6 (enc := enc) (C := Try.checked) false ⟨#[], #[.slice none 0 0, .int .u32 0, .int .u32 0, .int .u32 0, .int .u32 0, .int .u32 0, .int .u32 0], []⟩ 8 (by kernel_rfl) (by kernel_rfl) (by kernel_rfl) (by kernel_rfl)) ?_
  intro W base args ds gs before hval0 hW hcnd hsz0 _
  have hval : ∀ (j : Nat) t v, Try.f8.params[j]? = some t → args[j]? = some v → Value.okWide Try.prog W .any base t v := hval0
  have hW' := hW
  obtain ⟨p, q, hA0, hV, rfl, hfz, hnd⟩ := hW
  have hA : DataW.TrodAll enc Try.prog W 0 (fun _ => true) true Try.f8.params.toList args.toList ds p := hA0
  rw [Try.params8] at hA hval
  obtain ⟨v0, vs0, d0, ds0, p0, q0, hargs, rfl, rfl, h0, r0⟩ := trodAll_cons hA
  obtain ⟨v1, vs1, d1, ds1, p1, q1, rfl, rfl, rfl, h1, r1⟩ := trodAll_cons r0
  obtain ⟨v2, vs2, d2, ds2, p2, q2, rfl, rfl, rfl, h2, r2⟩ := trodAll_cons r1
  obtain ⟨v3, vs3, d3, ds3, p3, q3, rfl, rfl, rfl, h3, r3⟩ := trodAll_cons r2
  obtain ⟨v4, vs4, d4, ds4, p4, q4, rfl, rfl, rfl, h4, r4⟩ := trodAll_cons r3
  obtain ⟨v5, vs5, d5, ds5, p5, q5, rfl, rfl, rfl, h5, r5⟩ := trodAll_cons r4
  obtain ⟨v6, vs6, d6, ds6, p6, q6, rfl, rfl, rfl, h6, r6⟩ := trodAll_cons r5
  obtain ⟨rfl, rfl, rfl⟩ := trodAll_nil r6
  obtain rfl : args = #[v0, v1, v2, v3, v4, v5, v6] := by cases args; simp_all
  obtain ⟨rfl, rfl⟩ := trodVars_none hV
  have hsz : (DataW.weightsEach Try.prog (Try.f8.params.toList ++ Rows.conditionRepairsSpec.plain.varTypes Try.prog) ([d0, d1, d2, d3, d4, d5, d6] ++ [])).all (· ≤ reachBytes) = true := hsz0
  rw [Try.params8] at hsz
  have k0 := h0
  have lt0 : ∀ x ∈ p0, x.block < W.heap.size := by obtain ⟨m, hm⟩ := k0; exact DataW.trod_lt m _ _ _ hm
  have hw0 : ∀ x ∈ d0.weights Try.prog 23, x ≤ reachBytes := fun x hx => by simpa using List.all_eq_true.1 hsz x (DataW.weights_mem_each (j := 0) rfl rfl x hx)
  obtain ⟨A0, n0, c0, z0, rfl, I0⟩ := open_list (hval 0 23 v0 rfl rfl) h0 hw0 lt0
  obtain ⟨a1, rfl, rfl, rfl, w1⟩ := open_int Try.underlying64 (hval 1 64 v1 rfl rfl) h1
  have wr1 : 0 ≤ a1 ∧ a1 ≤ 4294967295 := by
    have h := w1
    unfold Lit.wf at h
    simp at h
    have h1 : IntKind.u32.min = 0 := by kernel_rfl
    have h2 : IntKind.u32.max = 4294967295 := by kernel_rfl
    omega
  obtain ⟨a2, rfl, rfl, rfl, w2⟩ := open_int Try.underlying64 (hval 2 64 v2 rfl rfl) h2
  have wr2 : 0 ≤ a2 ∧ a2 ≤ 4294967295 := by
    have h := w2
    unfold Lit.wf at h
    simp at h
    have h1 : IntKind.u32.min = 0 := by kernel_rfl
    have h2 : IntKind.u32.max = 4294967295 := by kernel_rfl
    omega
  obtain ⟨a3, rfl, rfl, rfl, w3⟩ := open_int Try.underlying64 (hval 3 64 v3 rfl rfl) h3
  have wr3 : 0 ≤ a3 ∧ a3 ≤ 4294967295 := by
    have h := w3
    unfold Lit.wf at h
    simp at h
    have h1 : IntKind.u32.min = 0 := by kernel_rfl
    have h2 : IntKind.u32.max = 4294967295 := by kernel_rfl
    omega
  obtain ⟨a4, rfl, rfl, rfl, w4⟩ := open_int Try.underlying64 (hval 4 64 v4 rfl rfl) h4
  have wr4 : 0 ≤ a4 ∧ a4 ≤ 4294967295 := by
    have h := w4
    unfold Lit.wf at h
    simp at h
    have h1 : IntKind.u32.min = 0 := by kernel_rfl
    have h2 : IntKind.u32.max = 4294967295 := by kernel_rfl
    omega
  obtain ⟨a5, rfl, rfl, rfl, w5⟩ := open_int Try.underlying64 (hval 5 64 v5 rfl rfl) h5
  have wr5 : 0 ≤ a5 ∧ a5 ≤ 4294967295 := by
    have h := w5
    unfold Lit.wf at h
    simp at h
    have h1 : IntKind.u32.min = 0 := by kernel_rfl
    have h2 : IntKind.u32.max = 4294967295 := by kernel_rfl
    omega
  obtain ⟨a6, rfl, rfl, rfl, w6⟩ := open_int Try.underlying64 (hval 6 64 v6 rfl rfl) h6
  have wr6 : 0 ≤ a6 ∧ a6 ≤ 4294967295 := by
    have h := w6
    unfold Lit.wf at h
    simp at h
    have h1 : IntKind.u32.min = 0 := by kernel_rfl
    have h2 : IntKind.u32.max = 4294967295 := by kernel_rfl
    omega
  clear hA0 hval0
  refine (Repairs_calls a1 a2 a3 a4 a5 a6 W I0 wr1 wr2 wr3 wr4 wr5 wr6).mono fun e W' ⟨he, bel⟩ => ?_
  subst he
  exact ⟨_, rfl, _, _, _, [], _, [], hW', trodAll_mk1 (shut_bool Try.underlying4 _), (trodAll_cons_mk (Below.trod laidOut (by kernel_rfl) (of_decide_eq_true (by kernel_rfl)) k0 bel lt0) (trodAll_cons_mk (shut_int Try.underlying64 w1) (trodAll_cons_mk (shut_int Try.underlying64 w2) (trodAll_cons_mk (shut_int Try.underlying64 w3) (trodAll_cons_mk (shut_int Try.underlying64 w4) (trodAll_cons_mk (shut_int Try.underlying64 w5) (trodAll_cons_mk (shut_int Try.underlying64 w6) trodAll_mk0))))))), rfl, bel.frame _, fun h => by cases h⟩

theorem over : Rows.conditionRepairsRow.holds Try.pinned (OpenSpec.ofChange Rows.conditionRepairsSpec) :=
  OpenClaim.holds_of_wide 8 Try.f8 rfl rfl rfl rfl rfl rfl rfl ⟨rfl, rfl, rfl, rfl, rfl⟩ rfl rfl rfl rfl rfl (by kernel_rfl) Try.func8 (by kernel_rfl)
    (of_decide_eq_true (by kernel_rfl)) (by unfold Func.isWrapper; first | (rw [if_pos (by decide +kernel)]; kernel_rfl) | (rw [if_neg (by decide +kernel)]; exact ⟨rfl, rfl⟩))
    (fun os started H enc _ => lifted os started H enc)

theorem proved : Rows.ConditionRepairsSaid := over
#print axioms proved
end Go.Proofs.Ytihaabdgligbbaa.lawConditionRepairs
