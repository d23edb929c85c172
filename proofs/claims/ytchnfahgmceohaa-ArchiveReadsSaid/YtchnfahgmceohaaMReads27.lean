/- Window of the reference of layer 17. -/
import Derived.Test.YtchnfahgmceohaaMReads19
import Derived.Test.YtchnfahgmceohaaMReads21
import Derived.Deep.RegionHeld3
import Derived.Deep.AppendLies
import Derived.Test.YtchnfahgmceohaaMReads24
import Derived.Test.YtchnfahgmceohaaMReads26

namespace Go.Proofs.Ytchnfahgmceohaa
open Go.RowKit
set_option linter.unusedVariables false

set_option maxRecDepth 100000 in
/-- At a step of a region that draws its order: integers appended to own integers. -/
theorem step_append_ints {ops : Array Oper} {o : Oper} {a : Act} {K : Act → World → Prop} {Q : Exit → Act → World → Prop} {E : Prop} (w : World) (B : Nat) (v : Value) (zs : List Int) (A : Option Addr) (m c : Nat) (ys : List Int)
    (hgd : o.guard = none) (s y : Operand) (ho : o.op = .call { callee := .builtin .append, args := #[s, y], argTypes := #[34, 34] })
    (hs : a.eval s = v) (hx : a.eval y = .slice A m c) (hown : Own w B v zs) (hB : B ≤ w.heap.size) (hi : Ints w A m c ys) (hf : zs.length + ys.length ≤ 17592186044416)
    (h : ∀ v' w', Own w' B v' (zs ++ ys) → Below B w w' → K (a.put o.dst v') w') :
    if Region.wanted o (yielded ops a.tmps) = true then Oper.wp Try.prog o a w K Q else E := by
  obtain ⟨i0, hi0, hz0, hz1, hz2⟩ := info_parts info_int
  have hw : Region.wanted o (yielded ops a.tmps) = true := by simp [Region.wanted, hgd]
  rw [if_pos hw]
  cases A with
  | none =>
    have hc := hi.nl rfl
    have hm : m = 0 := by have := hi.cap; omega
    subst hc hm
    have hy : ys = [] := List.eq_nil_of_length_eq_zero hi.len
    subst hy
    have hrun := run_append_owned_none (P := Try.prog) (w := w) B 34 o.type 3 i0 1 Try.underlying34 hi0 v zs.length (Cells zs) hown.row
    unfold Oper.wp
    simp [execOp, ho, resolve, invoke, builtin, hs, hx, hrun, Result.andThen]
    exact h v w (by rw [List.append_nil]; exact hown) (Below.refl _ _)
  | some ad =>
    refine wp_append_own w s y 34 ho B 3 i0 (.int .i64 0) 1 8 Try.underlying34 hi0 hz0 hz1 hz2 rfl (by decide) v zs.length (Cells zs) hs hown.row ad m c (Cells ys) hx (by rw [Cells_length, hi.len, Nat.mul_one]) ?_ ?_ ?_ ?_ hB ?_
    · intro j u hj
      have hjl : j < ys.length := by
        have := (List.getElem?_eq_some_iff.1 hj).1
        rwa [Cells_length] at this
      rw [Cells_get ys j hjl] at hj
      injection hj with hj
      subst hj
      obtain ⟨ad', e, _, hc⟩ := hi.mem (by rw [← hi.len]; omega)
      injection e with e
      subst e
      exact hc j (by rw [← hi.len]; exact hjl)
    · intro u hu
      obtain ⟨z, _, rfl⟩ := List.mem_map.1 hu
      rfl
    · have := hi.len; unfold maxLen; omega
    · have := hi.len; omega
    · intro v' w' ho' hg _
      refine h v' w' ⟨?_, ?_, ?_⟩ ?_
      · rw [Cells_append, List.length_append, hi.len]; exact ho'
      · intro z hz
        rcases List.mem_append.1 hz with hz | hz
        · exact hown.rng z hz
        · exact hi.rng z hz
      · rw [List.length_append]; exact hf
      · exact (Below.refl B w).grown hg hB (fun k hk => (hown.row.lt k hk).1)
def RetW (s : SerD) (w : World) (e : Ending) (w' : World) : Prop :=
  ∃ A n c, e = .returned (serA s.f s.st A n c) ∧ Ints w' A n c s.ds ∧ Below w.heap.size w w' ∧ ∀ ad, A = some ad → w.heap.size ≤ ad.block

set_option maxRecDepth 100000 in
set_option maxHeartbeats 4000000 in
theorem Window_ref {A : Option Addr} {n c : Nat} {ds : List Int} (f st : Int) (x y : Nat) (w : World) (h : Ints w A n c ds) (hv : validS f st ds = true) (hxy : x ≤ y) (hyn : y ≤ n) :
    Calls Try.prog 54 #[serA f st A n c, .int .i64 x, .int .i64 y] w (RetW ⟨f + st * x, st, (ds.drop x).take (y - x)⟩ w) := by
  have hcap := h.cap
  have hmax := h.max
  obtain ⟨W0, hW0⟩ : ∃ W0, (w.alloc (serO f st A n c)).alloc (serO 0 0 none 0 0) = W0 := ⟨_, rfl⟩
  have hb0 : Below w.heap.size w W0 := by rw [← hW0]; exact ((Below.refl _ _).alloc (Nat.le_refl _) _).alloc (by simp) _
  have hX0 : SBox W0 w.heap.size f st A n c := by rw [← hW0]; exact (SBox.made w f st A n c).alloc _
  have hZ0 : ZBox W0 (w.heap.size + 1) := by
    rw [← hW0]
    have e : (w.alloc (serO f st A n c)).heap.size = w.heap.size + 1 := by simp
    rw [← e]
    exact ⟨SBox.made _ 0 0 none 0 0, fun i => World.frozen?_alloc_new _ _ _ _⟩
  obtain ⟨hfr, hdp⟩ := validS_parts hv
  have f0' := hfr.f0
  have f1' := hfr.f1
  have s0' := hfr.s0
  have s1' := hfr.s1
  have n1' := hfr.n1
  rw [h.len] at n1'
  have hxn : x ≤ n := by omega
  have hm0 : 0 ≤ st * (x : Int) := Int.mul_nonneg (by omega) (by omega)
  have hm1 : st * (x : Int) ≤ 86400 * 10000 := Int.mul_le_mul (by omega) (by omega) (by omega) (by omega)
  have hI := ((h.below hb0).drop hxn).take (k := y - x) (by omega)
  obtain ⟨A', c', hcase⟩ : ∃ A' c', (c = x ∧ n = x ∧ y = x ∧ A = A' ∧ c' = 0) ∨ (¬ c = x ∧ ∃ ad, A = some ad ∧ A' = some (ad.add x) ∧ c' = c - x) := by
    by_cases hcx : c = x
    · exact ⟨A, 0, .inl ⟨hcx, by omega, by omega, rfl, rfl⟩⟩
    · cases A with
      | none => have := h.nl rfl; omega
      | some ad => exact ⟨_, _, .inr ⟨hcx, ad, rfl, rfl, rfl⟩⟩
  have hI' : Ints W0 A' (y - x) c' ((ds.drop x).take (y - x)) := by
    rcases hcase with ⟨hq, -, -, rfl, rfl⟩ | ⟨hq, ad, rfl, rfl, rfl⟩
    · rw [if_pos hq, show c - x = 0 by omega] at hI; exact hI
    · rw [if_neg hq] at hI; exact hI
  have HI := Lib.hid hI'
  have hMb : -68719476736 ≤ f + st * (x : Int) ∧ f + st * (x : Int) ≤ 68719476736 + 864000000 := by omega
  obtain ⟨M, hM⟩ : ∃ M, st * (x : Int) = M := ⟨_, rfl⟩
  obtain ⟨F, hF⟩ : ∃ F, f + M = F := ⟨_, rfl⟩
  rw [hM] at hm0 hm1 hMb ⊢
  rw [hF] at hMb ⊢
  obtain ⟨hF0, hF1⟩ := hMb
  have HB0 := Lib.hid hb0
  obtain ⟨x0, x1, x2, xl⟩ : W0.cell? ⟨w.heap.size, 0, none⟩ = some (.int .i64 f) ∧ W0.cell? ⟨w.heap.size, 1, none⟩ = some (.int .i64 st) ∧ W0.cell? ⟨w.heap.size, 2, none⟩ = some (.slice A n c) ∧ w.heap.size < W0.heap.size := ⟨hX0.c0, hX0.c1, hX0.c2, hX0.lt⟩
  obtain ⟨⟨z0, z1, z2, zl⟩, zf⟩ := hZ0
  have f0 := zf 0
  have f1 := zf 1
  have f2 := zf 2
  clear h hI hI' hfr hdp hv hX0 zf hb0 f0' f1' s0' s1'
  have em : IntKind.i64.wrap M = M := IntWalk.i64_in _ (by omega)
  have ef : IntKind.i64.wrap F = F := IntWalk.i64_in _ (by omega)
  rcases hcase with ⟨rfl, rfl, rfl, rfl, rfl⟩ | ⟨hck, ad, rfl, rfl, rfl⟩
  · have zy : (0 : Int) ≤ (y : Int) := by omega
    have hi0 := HI.out
    generalize (ds.drop y).take (y - y) = L at *
    rw [Nat.sub_self] at hi0
    have HI0 := Lib.hid hi0
    clear hi0
    have hbe : Below W0.heap.size W0 (W0.alloc (.cells #[] 3)).drew := below_drewN ((Below.refl _ _).alloc (Nat.le_refl _) _) 1
    have IE := Lib.hid (HI0.out.below hbe)
    have OE := Lib.hid ((Own.empty W0 W0.heap.size (Nat.le_refl _)).drewN 1)
    have hk : ∀ w3, Below W0.heap.size W0 w3 → w3.cell? ⟨w.heap.size, 0, none⟩ = some (.int .i64 f) ∧ w3.cell? ⟨w.heap.size, 1, none⟩ = some (.int .i64 st) ∧ w3.cell? ⟨w.heap.size, 2, none⟩ = some (.slice A y y) ∧ w3.frozen? ⟨w.heap.size + 1, 0, none⟩ = false ∧ w3.frozen? ⟨w.heap.size + 1, 1, none⟩ = false ∧ w3.frozen? ⟨w.heap.size + 1, 2, none⟩ = false := fun w3 b =>
      ⟨(b.cell (p := ⟨w.heap.size, 0, none⟩) xl).trans x0, (b.cell (p := ⟨w.heap.size, 1, none⟩) xl).trans x1, (b.cell (p := ⟨w.heap.size, 2, none⟩) xl).trans x2, (b.frozen (p := ⟨w.heap.size + 1, 0, none⟩) zl).trans f0, (b.frozen (p := ⟨w.heap.size + 1, 1, none⟩) zl).trans f1, (b.frozen (p := ⟨w.heap.size + 1, 2, none⟩) zl).trans f2⟩
    have HKA := Lib.hid (hk _ hbe)
    have HK := Lib.hid hk
    have hz : ∀ w3, Below W0.heap.size W0 w3 → w3.cell? ⟨w.heap.size + 1, 0, none⟩ = some (.int .i64 0) ∧ w3.cell? ⟨w.heap.size + 1, 1, none⟩ = some (.int .i64 0) ∧ w3.cell? ⟨w.heap.size + 1, 2, none⟩ = some (.slice none 0 0) := fun w3 b => ⟨(b.cell (p := ⟨w.heap.size + 1, 0, none⟩) zl).trans z0, (b.cell (p := ⟨w.heap.size + 1, 1, none⟩) zl).trans z1, (b.cell (p := ⟨w.heap.size + 1, 2, none⟩) zl).trans z2⟩
    have HZ := Lib.hid hz
    have HBE := Lib.hid hbe
    have hLl : L.length ≤ 20000 := by have := HI0.out.len; omega
    clear hk hz hbe
    go_enter Try.func54, Try.ntmps54
    go_wp2
    go_region_held3 (fun w' => w'.cell? ⟨w.heap.size, 0, none⟩ = some (.int .i64 f) ∧ w'.cell? ⟨w.heap.size, 1, none⟩ = some (.int .i64 st) ∧ w'.cell? ⟨w.heap.size, 2, none⟩ = some (.slice A y y) ∧ w'.frozen? ⟨w.heap.size + 1, 0, none⟩ = false ∧ w'.frozen? ⟨w.heap.size + 1, 1, none⟩ = false ∧ w'.frozen? ⟨w.heap.size + 1, 2, none⟩ = false) (first | exact HKA.out | exact HK.out _ (by assumption) | go_keep) ((refine step_append_ints (W0.alloc (.cells #[] 3)).drew W0.heap.size _ [] A 0 0 L rfl _ _ rfl rfl rfl OE.out HBE.out.size IE.out (by simp; omega) ?_; intro v3 w3 o3 b3'; obtain ⟨A3, n3, c3, rfl, i3, g3⟩ := o3.ints; have b3 := HBE.out.trans b3'; obtain ⟨y0, y1, y2⟩ := HZ.out _ b3; have O3 := Lib.hid o3; clear o3 b3'))
    have q := stored3 (.int .i64 F) (.int .i64 st) (.slice A3 n3 c3) y0 y1 y2
    have hB3 := below_then HB0.out b3 HB0.out.size
    have hbw := ((hB3.setCell (p := ⟨w.heap.size + 1, 0, none⟩) (Nat.le_succ _) (.int .i64 F)).setCell (p := ⟨w.heap.size + 1, 1, none⟩) (Nat.le_succ _) (.int .i64 st)).setCell (p := ⟨w.heap.size + 1, 2, none⟩) (Nat.le_succ _) (.slice A3 n3 c3)
    have hi6 := ((i3.far (p := ⟨w.heap.size + 1, 0, none⟩) (fun ad e => by have := g3 ad e; show ad.block ≠ w.heap.size + 1; omega) (.int .i64 F)).far (p := ⟨w.heap.size + 1, 1, none⟩) (fun ad e => by have := g3 ad e; show ad.block ≠ w.heap.size + 1; omega) (.int .i64 st)).far (p := ⟨w.heap.size + 1, 2, none⟩) (fun ad e => by have := g3 ad e; show ad.block ≠ w.heap.size + 1; omega) (.slice A3 n3 c3)
    have Q := Lib.hid q
    have HBW := Lib.hid hbw
    have HI6 := Lib.hid hi6
    clear q hbw hB3 hi6
    go_wp2
    have q := Q.out
    have hbw := HBW.out
    have hi6 := HI6.out
    generalize ((w3.setCell ⟨w.heap.size + 1, 0, none⟩ (.int .i64 F)).setCell ⟨w.heap.size + 1, 1, none⟩ (.int .i64 st)).setCell ⟨w.heap.size + 1, 2, none⟩ (.slice A3 n3 c3) = W3 at *
    obtain ⟨q0, q1, q2⟩ := q
    refine bodyPost_ret (v := serA F st A3 n3 c3) (by simp [results, Try.results54, go_sem, q0, q1, q2]) rfl ?_
    rw [List.nil_append] at hi6
    exact ⟨A3, n3, c3, rfl, hi6, hbw, fun ad e => by have := g3 ad e; omega⟩
  · have zx : (0 : Int) ≤ (x : Int) := by omega
    have zxy : (x : Int) ≤ (y : Int) := by omega
    have zyn : (y : Int) ≤ (n : Int) := by omega
    have zyc : (y : Int) ≤ (c : Int) := by omega
    have zyc2 : y ≤ c := by omega
    have hxc : x ≤ c := by omega
    generalize (ds.drop x).take (y - x) = L at *
    have HI0 := HI
    have hbe : Below W0.heap.size W0 (W0.alloc (.cells #[] 3)).drew := below_drewN ((Below.refl _ _).alloc (Nat.le_refl _) _) 1
    have IE := Lib.hid (HI0.out.below hbe)
    have OE := Lib.hid ((Own.empty W0 W0.heap.size (Nat.le_refl _)).drewN 1)
    have hk : ∀ w3, Below W0.heap.size W0 w3 → w3.cell? ⟨w.heap.size, 0, none⟩ = some (.int .i64 f) ∧ w3.cell? ⟨w.heap.size, 1, none⟩ = some (.int .i64 st) ∧ w3.cell? ⟨w.heap.size, 2, none⟩ = some (.slice (some ad) n c) ∧ w3.frozen? ⟨w.heap.size + 1, 0, none⟩ = false ∧ w3.frozen? ⟨w.heap.size + 1, 1, none⟩ = false ∧ w3.frozen? ⟨w.heap.size + 1, 2, none⟩ = false := fun w3 b =>
      ⟨(b.cell (p := ⟨w.heap.size, 0, none⟩) xl).trans x0, (b.cell (p := ⟨w.heap.size, 1, none⟩) xl).trans x1, (b.cell (p := ⟨w.heap.size, 2, none⟩) xl).trans x2, (b.frozen (p := ⟨w.heap.size + 1, 0, none⟩) zl).trans f0, (b.frozen (p := ⟨w.heap.size + 1, 1, none⟩) zl).trans f1, (b.frozen (p := ⟨w.heap.size + 1, 2, none⟩) zl).trans f2⟩
    have HKA := Lib.hid (hk _ hbe)
    have HK := Lib.hid hk
    have hz : ∀ w3, Below W0.heap.size W0 w3 → w3.cell? ⟨w.heap.size + 1, 0, none⟩ = some (.int .i64 0) ∧ w3.cell? ⟨w.heap.size + 1, 1, none⟩ = some (.int .i64 0) ∧ w3.cell? ⟨w.heap.size + 1, 2, none⟩ = some (.slice none 0 0) := fun w3 b => ⟨(b.cell (p := ⟨w.heap.size + 1, 0, none⟩) zl).trans z0, (b.cell (p := ⟨w.heap.size + 1, 1, none⟩) zl).trans z1, (b.cell (p := ⟨w.heap.size + 1, 2, none⟩) zl).trans z2⟩
    have HZ := Lib.hid hz
    have HBE := Lib.hid hbe
    have hLl : L.length ≤ 20000 := by have := HI0.out.len; omega
    clear hk hz hbe
    go_enter Try.func54, Try.ntmps54
    go_wp2
    go_region_held3 (fun w' => w'.cell? ⟨w.heap.size, 0, none⟩ = some (.int .i64 f) ∧ w'.cell? ⟨w.heap.size, 1, none⟩ = some (.int .i64 st) ∧ w'.cell? ⟨w.heap.size, 2, none⟩ = some (.slice (some ad) n c) ∧ w'.frozen? ⟨w.heap.size + 1, 0, none⟩ = false ∧ w'.frozen? ⟨w.heap.size + 1, 1, none⟩ = false ∧ w'.frozen? ⟨w.heap.size + 1, 2, none⟩ = false) (first | exact HKA.out | exact HK.out _ (by assumption) | go_keep) ((refine step_append_ints (W0.alloc (.cells #[] 3)).drew W0.heap.size _ [] (some (ad.add x)) (y - x) (c - x) L rfl _ _ rfl rfl rfl OE.out HBE.out.size IE.out (by simp; omega) ?_; intro v3 w3 o3 b3'; obtain ⟨A3, n3, c3, rfl, i3, g3⟩ := o3.ints; have b3 := HBE.out.trans b3'; obtain ⟨y0, y1, y2⟩ := HZ.out _ b3; have O3 := Lib.hid o3; clear o3 b3'))
    have q := stored3 (.int .i64 F) (.int .i64 st) (.slice A3 n3 c3) y0 y1 y2
    have hB3 := below_then HB0.out b3 HB0.out.size
    have hbw := ((hB3.setCell (p := ⟨w.heap.size + 1, 0, none⟩) (Nat.le_succ _) (.int .i64 F)).setCell (p := ⟨w.heap.size + 1, 1, none⟩) (Nat.le_succ _) (.int .i64 st)).setCell (p := ⟨w.heap.size + 1, 2, none⟩) (Nat.le_succ _) (.slice A3 n3 c3)
    have hi6 := ((i3.far (p := ⟨w.heap.size + 1, 0, none⟩) (fun ad e => by have := g3 ad e; show ad.block ≠ w.heap.size + 1; omega) (.int .i64 F)).far (p := ⟨w.heap.size + 1, 1, none⟩) (fun ad e => by have := g3 ad e; show ad.block ≠ w.heap.size + 1; omega) (.int .i64 st)).far (p := ⟨w.heap.size + 1, 2, none⟩) (fun ad e => by have := g3 ad e; show ad.block ≠ w.heap.size + 1; omega) (.slice A3 n3 c3)
    have Q := Lib.hid q
    have HBW := Lib.hid hbw
    have HI6 := Lib.hid hi6
    clear q hbw hB3 hi6
    go_wp2
    have q := Q.out
    have hbw := HBW.out
    have hi6 := HI6.out
    generalize ((w3.setCell ⟨w.heap.size + 1, 0, none⟩ (.int .i64 F)).setCell ⟨w.heap.size + 1, 1, none⟩ (.int .i64 st)).setCell ⟨w.heap.size + 1, 2, none⟩ (.slice A3 n3 c3) = W3 at *
    obtain ⟨q0, q1, q2⟩ := q
    refine bodyPost_ret (v := serA F st A3 n3 c3) (by simp [results, Try.results54, go_sem, q0, q1, q2]) rfl ?_
    rw [List.nil_append] at hi6
    exact ⟨A3, n3, c3, rfl, hi6, hbw, fun ad e => by have := g3 ad e; omega⟩
end Go.Proofs.Ytchnfahgmceohaa

/- Read of the reference. -/
namespace Go.Proofs.Ytchnfahgmceohaa
open Go.RowKit
set_option linter.unusedVariables false

theorem serL_valid {p : List Int} (h : (serL p).2 = 0) : validD (serL p).1 = true := by
  unfold serL at h ⊢
  split at h
  · simp at h
  · rename_i h1
    rw [if_neg h1]
    split at h
    · simp at h
    · rename_i h2
      rw [if_neg h2]
      split at h
      · simp at h
      · rename_i h3
        rw [if_neg h3]
        split at h
        · simp at h
        · rename_i h4
          rw [if_neg h4]
          show validS _ _ _ = true
          simpa using h4
theorem decGo_valid : ∀ (f : Nat) (bs : List Int) (out : List SerD), (∀ s ∈ out, validD s = true) → ∀ s ∈ (decGo f bs out).1, validD s = true
  | 0, _, _, h => by rw [decGo]; exact h
  | f + 1, bs, out, h => by
    rw [decGo]
    split
    · exact h
    · split
      · simp
      · split
        · simp
        · split
          · simp
          · split
            · simp
            · split
              · simp
              · rename_i h5
                refine decGo_valid f _ _ (fun s hs => ?_)
                rcases List.mem_append.1 hs with hs | hs
                · exact h s hs
                · rw [List.mem_singleton] at hs
                  rw [hs]
                  exact serL_valid (by simpa using h5)
theorem decL_valid (bs : List Int) : ∀ s ∈ (decL bs).1, validD s = true := by
  unfold decL
  split
  · simp
  · split
    · simp
    · exact decGo_valid _ _ _ (by simp)

set_option maxRecDepth 100000 in
set_option maxHeartbeats 4000000 in
theorem Read_ref {A : Option Addr} {n c : Nat} {bs : List Int} (k a b : Int) (w : World) (h : Byts w A n c bs) (hk : -9223372036854775808 ≤ k ∧ k ≤ 9223372036854775807) (ha : -9223372036854775808 ≤ a ∧ a ≤ 9223372036854775807) (hb : -9223372036854775808 ≤ b ∧ b ≤ 9223372036854775807) :
    Calls Try.prog 28 #[.slice A n c, .int .i64 k, .int .i64 a, .int .i64 b] w (RetSer (readV bs k a b) w) := by
  have hb0 : Below w.heap.size w (w.alloc (serO 0 0 none 0 0)) := (Below.refl _ _).alloc (Nat.le_refl _) _
  have dc := DecodeR_any _ (h.below hb0)
  have hZ0 : ZBox (w.alloc (serO 0 0 none 0 0)) w.heap.size := ⟨SBox.made _ 0 0 none 0 0, fun i => World.frozen?_alloc_new _ _ _ _⟩
  have Z0 := Lib.hid hZ0
  have B0 := Lib.hid hb0
  have hfew := decL_few bs
  have hval := decL_valid bs
  obtain ⟨V, hV⟩ : ∃ V, readV bs k a b = V := ⟨_, rfl⟩
  rw [hV]
  unfold readV at hV
  generalize decL bs = D at *
  obtain ⟨xs, er⟩ := D
  dsimp only at hV hfew hval
  have DC := Lib.hid dc
  have FIN := Lib.hid (fun (x : Int) (W : World) (z : ZBox W w.heap.size) (hB : Below w.heap.size w W) => fin0 z hB x)
  clear dc h hb0 hZ0
  by_cases her : er = 0
  · subst her
    rw [if_neg (by simp)] at hV
    by_cases hkr : k < 0 ∨ (xs.length : Int) ≤ k
    · rw [if_pos hkr] at hV
      subst hV
      have hk2 : k < 0 ∨ (¬ k < 0 ∧ (xs.length : Int) ≤ k) := by omega
      clear hkr hfew hval
      rcases hk2 with h1 | ⟨h1, h2⟩ <;> (
        go_enter Try.func28, Try.ntmps28
        go_wp2_with fail
        refine (DC.out).mono ?_
        rintro e w1 ⟨A2, n2, c2, rfl, s2, b1⟩
        obtain rfl : n2 = xs.length := s2.len.symm
        have hz := Z0.out.below b1 Z0.out.b.lt
        have F := FIN.out 2 w1 hz (below_then B0.out b1 B0.out.size)
        obtain ⟨z0, z1, z2, f0, f1, f2, zl⟩ := hz.cells
        clear hz b1 s2
        go_wp2
        have q := F.out
        generalize ((w1.setCell ⟨w.heap.size, 0, none⟩ (.int .i64 0)).setCell ⟨w.heap.size, 1, none⟩ (.int .i64 0)).setCell ⟨w.heap.size, 2, none⟩ (.slice none 0 0) = W3 at *
        obtain ⟨⟨⟨q0, q1, q2, -⟩, -, -, -, -⟩, q3⟩ := q
        exact bodyPost_ret (v := .tuple #[serA 0 0 none 0 0, .int .i64 2]) (by simp [results, Try.results28, go_sem, q0, q1, q2]) rfl q3)
    · rw [if_neg hkr] at hV
      obtain ⟨j, hj⟩ := Int.eq_ofNat_of_zero_le (show 0 ≤ k by omega)
      subst hj
      have hjl : j < xs.length := by omega
      rw [Int.toNat_natCast] at hV
      have hvs : validS (sl xs j).f (sl xs j).st (sl xs j).ds = true := hval _ (sl_mem hjl)
      unfold winV at hV
      rw [if_neg (by rw [hvs]; simp)] at hV
      clear hval hkr
      obtain ⟨m, hm⟩ : ∃ m, (sl xs j).ds.length = m := ⟨_, rfl⟩
      rw [hm] at hV
      have hmx : m ≤ 10000 := by rw [← hm]; exact (validS_parts hvs).1.n1
      by_cases hbad : a < 0 ∨ b < a ∨ (m : Int) < b
      · rw [if_pos hbad] at hV
        subst hV
        have hk2 : a < 0 ∨ (¬ a < 0 ∧ b < a) ∨ (¬ a < 0 ∧ ¬ b < a ∧ (m : Int) < b) := by omega
        have HM := Lib.hid hm
        clear hbad hfew hvs hm
        rcases hk2 with h1 | ⟨h1, h2⟩ | ⟨h1, h2, h3⟩ <;> (
          go_enter Try.func28, Try.ntmps28
          go_wp2_with fail
          refine (DC.out).mono ?_
          rintro e w1 ⟨A2, n2, c2, rfl, s2, b1⟩
          obtain rfl : n2 = xs.length := s2.len.symm
          have hcap := s2.cap
          have hmax := s2.max
          obtain ⟨ad, rfl, hl, ⟨A3, n3, c3, y0, y1, y2, qi⟩⟩ := s2.at_ hjl
          obtain rfl : n3 = m := by rw [← qi.len, HM.out]
          have hz := Z0.out.below b1 Z0.out.b.lt
          have F := FIN.out 2 w1 hz (below_then B0.out b1 B0.out.size)
          obtain ⟨z0, z1, z2, f0, f1, f2, zl⟩ := hz.cells
          clear hz b1 s2 qi y0 y1
          go_wp2
          have q := F.out
          generalize ((w1.setCell ⟨w.heap.size, 0, none⟩ (.int .i64 0)).setCell ⟨w.heap.size, 1, none⟩ (.int .i64 0)).setCell ⟨w.heap.size, 2, none⟩ (.slice none 0 0) = W3 at *
          obtain ⟨⟨⟨q0, q1, q2, -⟩, -, -, -, -⟩, q3⟩ := q
          exact bodyPost_ret (v := .tuple #[serA 0 0 none 0 0, .int .i64 2]) (by simp [results, Try.results28, go_sem, q0, q1, q2]) rfl q3)
      · rw [if_neg hbad] at hV
        obtain ⟨x, hx⟩ := Int.eq_ofNat_of_zero_le (show 0 ≤ a by omega)
        obtain ⟨y, hy⟩ := Int.eq_ofNat_of_zero_le (show 0 ≤ b by omega)
        subst hx hy
        have et : (((y : Int) - (x : Int)).toNat) = y - x := by omega
        rw [Int.toNat_natCast, et] at hV
        have wr := fun W A c (I : Ints W A m c (sl xs j).ds) => Window_ref (sl xs j).f (sl xs j).st x y W I hvs (by omega) (by omega)
        have g1 : (x : Int) ≤ (y : Int) := by omega
        have g2 : (y : Int) ≤ (m : Int) := by omega
        obtain ⟨T, hT⟩ : ∃ T : SerD, (⟨(sl xs j).f + (sl xs j).st * (x : Int), (sl xs j).st, ((sl xs j).ds.drop x).take (y - x)⟩ : SerD) = T := ⟨_, rfl⟩
        rw [hT] at hV
        simp only [hT] at wr
        have WR := Lib.hid wr
        have HM := Lib.hid hm
        clear et hbad wr hT hm hvs
        subst hV
        go_enter Try.func28, Try.ntmps28
        go_wp2_with fail
        refine (DC.out).mono ?_
        rintro e w1 ⟨A2, n2, c2, rfl, s2, b1⟩
        obtain rfl : n2 = xs.length := s2.len.symm
        have hcap := s2.cap
        have hmax := s2.max
        obtain ⟨ad, rfl, hl, ⟨A3, n3, c3, q0, q1, q2, qi⟩⟩ := s2.at_ hjl
        obtain rfl : n3 = m := by rw [← qi.len, HM.out]
        have WR1 := Lib.hid (WR.out w1 A3 c3 qi)
        have Z1 : Hid (ZBox w1 w.heap.size) := Lib.hid (Z0.out.below b1 Z0.out.b.lt)
        have B1 := Lib.hid (below_then B0.out b1 B0.out.size)
        have hsz : w.heap.size < w1.heap.size := Z1.out.b.lt
        generalize (sl xs j).f = sf at *
        generalize (sl xs j).st = st at *
        clear b1 s2 qi WR
        go_wp2_with fail
        refine (WR1.out).mono ?_
        rintro e w2 ⟨A4, n4, c4, rfl, i4, b4, g4⟩
        have hz := Z1.out.below b4 Z1.out.b.lt
        obtain ⟨z0, z1, z2, f0, f1, f2, zl⟩ := hz.cells
        have p5 := put3 hz.b hz.f T.f T.st A4 n4 c4
        have hbw := p5.bel _ _ (Nat.le_refl _) (below_then B1.out b4 B1.out.size)
        have hii := p5.int _ _ _ _ i4 (fun ad e => by have := g4 ad e; omega)
        have G4 := Lib.hid g4
        have Q := Lib.hid p5
        have HBW := Lib.hid hbw
        have HI6 := Lib.hid hii
        clear p5 hbw hii hz i4 b4 g4
        go_wp2
        have q := Q.out
        have hbw := HBW.out
        have hi6 := HI6.out
        generalize ((w2.setCell ⟨w.heap.size, 0, none⟩ (.int .i64 T.f)).setCell ⟨w.heap.size, 1, none⟩ (.int .i64 T.st)).setCell ⟨w.heap.size, 2, none⟩ (.slice A4 n4 c4) = W3 at *
        obtain ⟨⟨q0, q1, q2, -⟩, -, -, -, -⟩ := q
        refine bodyPost_ret (v := .tuple #[serA T.f T.st A4 n4 c4, .int .i64 0]) (by simp [results, Try.results28, go_sem, q0, q1, q2]) rfl ?_
        exact ⟨A4, n4, c4, rfl, hi6, hbw, fun ad e => by have := G4.out ad e; omega⟩
  · rw [if_pos her] at hV
    subst hV
    have heq : (er == 0) = false := by simp [her]
    clear hfew her hval
    go_enter Try.func28, Try.ntmps28
    go_wp2_with fail
    refine (DC.out).mono ?_
    rintro e w1 ⟨A2, n2, c2, rfl, s2, b1⟩
    have hz := Z0.out.below b1 Z0.out.b.lt
    have F := FIN.out er w1 hz (below_then B0.out b1 B0.out.size)
    obtain ⟨z0, z1, z2, f0, f1, f2, zl⟩ := hz.cells
    clear hz b1 s2
    go_wp2
    have q := F.out
    generalize ((w1.setCell ⟨w.heap.size, 0, none⟩ (.int .i64 0)).setCell ⟨w.heap.size, 1, none⟩ (.int .i64 0)).setCell ⟨w.heap.size, 2, none⟩ (.slice none 0 0) = W3 at *
    obtain ⟨⟨⟨q0, q1, q2, -⟩, -, -, -, -⟩, q3⟩ := q
    exact bodyPost_ret (v := .tuple #[serA 0 0 none 0 0, .int .i64 er]) (by simp [results, Try.results28, go_sem, q0, q1, q2]) rfl q3
end Go.Proofs.Ytchnfahgmceohaa
