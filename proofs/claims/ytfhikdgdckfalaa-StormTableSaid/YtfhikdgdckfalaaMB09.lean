/- blocks of the program. -/
import Derived.Test.YtfhikdgdckfalaaMB07
import Derived.Test.YtfhikdgdckfalaaMB08
import Derived.Test.YtfhikdgdckfalaaMB01

namespace Go.Proofs.Ytfhikdgdckfalaa
open Go.RowKit
set_option linter.unusedVariables false

set_option maxRecDepth 100000 in
set_option maxHeartbeats 4000000 in
theorem blocks_calls {A0 A1 A2 : Option Addr} {n0 c0 n1 c1 n2 c2 : Nat} {ds ps : List Int} {rows : List (List Int)} (y st : Int) (n : Nat) (w : World) (h0 : Ints w A0 n0 c0 ds) (h1 : Ints w A1 n1 c1 ps) (h2 : Tab w A2 n2 c2 rows) (ok : VOk ds ps rows)
    (hs : 1 ≤ st ∧ st ≤ 86400) (hn : 1 ≤ n ∧ n ≤ 10000) :
    Calls Try.prog 69 #[tabA A0 n0 c0 A1 n1 c1 A2 n2 c2, .int .i64 y, .int .i64 st, .int .i64 n] w (RetL (blksV ds ps rows y st n).1 (blksV ds ps rows y st n).2 w) := by
  obtain ⟨W0, hW0⟩ : ∃ W0, w.alloc (tabO A0 n0 c0 A1 n1 c1 A2 n2 c2) = W0 := ⟨_, rfl⟩
  have hb0 : Below w.heap.size w W0 := by rw [← hW0]; exact (Below.refl _ _).alloc (Nat.le_refl _) _
  have x0 : HBox W0 w.heap.size (.slice A0 n0 c0) (.slice A1 n1 c1) (.slice A2 n2 c2) := by rw [← hW0]; exact HBox.made _ _ _ _ _
  obtain ⟨W1, hW1⟩ : ∃ W1, W0.alloc (.cells #[.int .i64 1, .int .i64 n] 3) = W1 := ⟨_, rfl⟩
  have hb1 : Below w.heap.size w W1 := by rw [← hW1]; exact hb0.alloc hb0.size _
  have x1 : HBox W1 w.heap.size (.slice A0 n0 c0) (.slice A1 n1 c1) (.slice A2 n2 c2) := by rw [← hW1]; exact x0.below ((Below.refl _ _).alloc (Nat.le_refl _) _) x0.lt
  have i1 : Ints W1 (some ⟨W0.heap.size, 0, none⟩) 2 2 [1, n] := by rw [← hW1]; exact Ints.lit W0 [1, (n : Int)] (by simp) (fun z hz => by simp at hz; omega)
  have hcell : W1.cell? ⟨W0.heap.size, 0, none⟩ = some (.int .i64 1) ∧ W1.cell? ⟨W0.heap.size, 1, none⟩ = some (.int .i64 n) := by
    obtain ⟨ad, e, -, hc⟩ := i1.mem (by omega)
    injection e with e
    subst e
    exact ⟨hc 0 (by omega), hc 1 (by omega)⟩
  have hWW : w.heap.size < W0.heap.size := x0.lt
  have hWl : W0.heap.size < W1.heap.size := by rw [← hW1]; simp
  have DF := Lib.hid (fun (x : Int) W (B : Below w.heap.size w W) (hi : inT ds ps x y = true) => (by
    obtain ⟨a, b, d1, d2, d3, d4, d5⟩ := dep_some ok.tok hi
    have := Depth_calls x y a b W (h0.below B) (h1.below B) (h2.below B) ok d1 d2 d3 d4
    have e1 : loV ds ps rows y x = quoV a b false := by unfold loV; rw [d1]; simp
    have e2 : hiV ds ps rows y x = quoV a b true := by unfold hiV; rw [d1]; simp
    rw [e1, e2]
    exact this : Calls Try.prog 81 #[tabA A0 n0 c0 A1 n1 c1 A2 n2 c2, .int .i64 x, .int .i64 y] W (SpanR W (loV ds ps rows y x : Nat) (hiV ds ps rows y x : Nat))))
  have DN := Lib.hid (fun (x : Int) W (B : Below w.heap.size w W) (hi : inT ds ps x y = false) => Depth_none x y W (h0.below B) (h1.below B) (h2.below B) ok (dep_none hi))
  have EI := Lib.hid (fun (he : endsB ds ps y st n = true) k (k1 : 1 ≤ k) (k2 : k ≤ n) => ends_in ok.1.asc (by have := ok.1.2.2.1; omega) (by omega) he k1 k2)
  have LL := Lib.hid (fun x (hi : inT ds ps x y = true) => loV_le ok.tok hi)
  obtain ⟨V, hV⟩ : ∃ V, blksV ds ps rows y st n = V := ⟨_, rfl⟩
  rw [hV]
  unfold blksV at hV
  obtain ⟨n00, n01⟩ := hn
  obtain ⟨s00, s01⟩ := hs
  have m0 : 1 * 1 ≤ (n : Int) * st := Int.mul_le_mul (by omega) (by omega) (by omega) (by omega)
  have m1 : (n : Int) * st ≤ 10000 * 86400 := Int.mul_le_mul (by omega) (by omega) (by omega) (by omega)
  obtain ⟨M, hM⟩ : ∃ M, (n : Int) * st = M := ⟨_, rfl⟩
  rw [hM] at m0 m1
  have XB := Lib.hid x1
  have B1 := Lib.hid hb1
  obtain ⟨hc0, hc1⟩ := hcell
  obtain ⟨k0, k1, k2, kl⟩ : W1.cell? ⟨w.heap.size, 0, none⟩ = some (.slice A0 n0 c0) ∧ W1.cell? ⟨w.heap.size, 1, none⟩ = some (.slice A1 n1 c1) ∧ W1.cell? ⟨w.heap.size, 2, none⟩ = some (.slice A2 n2 c2) ∧ w.heap.size < W1.heap.size := ⟨x1.c0, x1.c1, x1.c2, x1.lt⟩
  clear h0 h1 h2 ok hb0 x0 hb1 x1 i1
  cases hA : inT ds ps st y
  · have he : ¬ endsB ds ps y st n = true := by unfold endsB; rw [hA]; simp
    rw [if_neg he] at hV
    subst hV
    have D1 := Lib.hid (DN.out st W1 B1.out hA)
    clear hA he DF DN EI LL hM
    go_enter Try.func69, Try.ntmps69
    go_wp2
    refine wp_loop_rounds 1 ?_
    rw [rounds_succ]
    go_wp2_with fail
    refine (D1.out).mono ?_
    rintro e w2 ⟨rfl, b2⟩
    go_wp2
    go_returns
    exact RetL.none_ ((below_then B1.out b2 B1.out.size).alloc (below_then B1.out b2 B1.out.size).size _)
  · have D1 := Lib.hid (DF.out st W1 B1.out hA)
    cases hB : inT ds ps M y
    · have he : ¬ endsB ds ps y st n = true := by unfold endsB; rw [hM, hB, Bool.and_false]; simp
      rw [if_neg he] at hV
      subst hV
      have D2 := Lib.hid (fun W B => DN.out M W B hB)
      generalize (loV ds ps rows y st : Nat) = lo at *
      generalize (hiV ds ps rows y st : Nat) = hi at *
      clear hA hB he DF DN EI LL
      have HM := Lib.hid hM
      go_enter Try.func69, Try.ntmps69
      go_wp2
      refine wp_loop_rounds 2 ?_
      rw [rounds_succ]
      go_wp2_with fail
      refine (D1.out).mono ?_
      rintro e w2 ⟨rfl, b2⟩
      obtain ⟨W2, hW2⟩ : ∃ W2, w2.alloc (.cells #[.int .i64 lo, .int .i64 hi] 54) = W2 := ⟨_, rfl⟩
      have bx : Below W1.heap.size W1 W2 := by rw [← hW2]; exact b2.alloc b2.size _
      have B2 := Lib.hid (below_then B1.out bx B1.out.size)
      obtain ⟨p0, p1, p2⟩ : W2.cell? ⟨w.heap.size, 0, none⟩ = some (.slice A0 n0 c0) ∧ W2.cell? ⟨w.heap.size, 1, none⟩ = some (.slice A1 n1 c1) ∧ W2.cell? ⟨w.heap.size, 2, none⟩ = some (.slice A2 n2 c2) := ⟨(bx.cell (p := ⟨w.heap.size, 0, none⟩) kl).trans k0, (bx.cell (p := ⟨w.heap.size, 1, none⟩) kl).trans k1, (bx.cell (p := ⟨w.heap.size, 2, none⟩) kl).trans k2⟩
      have p3 : W2.cell? ⟨W0.heap.size, 1, none⟩ = some (.int .i64 n) := (bx.cell (p := ⟨W0.heap.size, 1, none⟩) hWl).trans hc1
      have D3 := Lib.hid (D2.out W2 B2.out)
      clear b2 bx k0 k1 k2 hc0 hc1 D2
      go_wp2_with fail
      rw [rounds_succ]
      go_wp2_with fail
      refine (D3.out).mono ?_
      rintro e w3 ⟨rfl, b3⟩
      go_wp2
      go_returns
      exact RetL.none_ ((below_then B2.out b3 B2.out.size).alloc (below_then B2.out b3 B2.out.size).size _)
    · have he : endsB ds ps y st n = true := by unfold endsB; rw [hM, hB, hA]; rfl
      rw [if_pos he] at hV
      subst hV
      have D2 := Lib.hid (fun W B => DF.out M W B hB)
      have EJ := Lib.hid (EI.out he)
      generalize (loV ds ps rows y st : Nat) = lo at *
      generalize (hiV ds ps rows y st : Nat) = hi at *
      generalize (loV ds ps rows y M : Nat) = lo2 at *
      generalize (hiV ds ps rows y M : Nat) = hi2 at *
      have HM := Lib.hid hM
      clear hA hB he DN EI
      go_enter Try.func69, Try.ntmps69
      go_wp2
      refine wp_loop_rounds 3 ?_
      rw [rounds_succ]
      go_wp2_with fail
      refine (D1.out).mono ?_
      rintro e w2 ⟨rfl, b2⟩
      obtain ⟨W2, hW2⟩ : ∃ W2, w2.alloc (.cells #[.int .i64 lo, .int .i64 hi] 54) = W2 := ⟨_, rfl⟩
      have bx : Below W1.heap.size W1 W2 := by rw [← hW2]; exact b2.alloc b2.size _
      have B2 := Lib.hid (below_then B1.out bx B1.out.size)
      have X2 := Lib.hid (XB.out.below bx XB.out.lt)
      obtain ⟨p0, p1, p2⟩ : W2.cell? ⟨w.heap.size, 0, none⟩ = some (.slice A0 n0 c0) ∧ W2.cell? ⟨w.heap.size, 1, none⟩ = some (.slice A1 n1 c1) ∧ W2.cell? ⟨w.heap.size, 2, none⟩ = some (.slice A2 n2 c2) := ⟨X2.out.c0, X2.out.c1, X2.out.c2⟩
      have p3 : W2.cell? ⟨W0.heap.size, 1, none⟩ = some (.int .i64 n) := (bx.cell (p := ⟨W0.heap.size, 1, none⟩) hWl).trans hc1
      have D3 := Lib.hid (D2.out W2 B2.out)
      clear b2 bx k0 k1 k2 kl hc0 hc1 D2
      go_wp2_with fail
      rw [rounds_succ]
      go_wp2_with fail
      refine (D3.out).mono ?_
      rintro e w3 ⟨rfl, b3⟩
      obtain ⟨W3, hW3⟩ : ∃ W3, w3.alloc (.cells #[.int .i64 lo2, .int .i64 hi2] 54) = W3 := ⟨_, rfl⟩
      have bx : Below W2.heap.size W2 W3 := by rw [← hW3]; exact b3.alloc b3.size _
      have B3 := Lib.hid (below_then B2.out bx B2.out.size)
      have X3 := Lib.hid (X2.out.below bx X2.out.lt)
      have L3 : w.heap.size + 1 ≤ W3.heap.size := X3.out.lt
      have HW3 := Lib.hid hW3
      clear b3 bx p0 p1 p2 p3 hW2 hWl hWW hW0 hW1 D1 D3 X2 B2
      go_wp2_with fail
      rw [rounds_succ]
      go_wp2
      go_loopw [14, 15, 16] (fun v vb vk wr => ∃ (k m : Nat) (b : Int), vk = .int .i64 k ∧ vb = .int .i64 b ∧ Hid (k = m + 1) ∧ 1 ≤ k ∧ k ≤ n + 1 ∧ 0 ≤ b ∧ b ≤ 4194304 ∧ Hid (b = cumV ds ps rows y st m) ∧ Own wr (w.heap.size + 1) v (fl m (blkF ds ps rows y st)) ∧ HBox wr w.heap.size (.slice A0 n0 c0) (.slice A1 n1 c1) (.slice A2 n2 c2) ∧ Below w.heap.size w wr) (fun _ _ vk _ => n + 1 - (intOf vk).toNat)
      case atStart => exact ⟨1, 0, 0, rfl, rfl, rfl, by omega, by omega, by omega, by omega, rfl, Own.nil _ _, X3.out, B3.out⟩
      case round =>
        clear X3 B3 L3
        obtain ⟨k, m, b, rfl, rfl, hk, k0, k1, b0, b1, hb, ho, hx, hbe⟩ := hrel
        generalize wr = wo at *
        have HO := Lib.hid ho
        have HX := Lib.hid hx
        have HB := Lib.hid hbe
        obtain ⟨A5, n5, c5, e5, -, -⟩ := ho.ints
        subst e5
        obtain ⟨p0, p1, p2, pl⟩ : wo.cell? ⟨w.heap.size, 0, none⟩ = some (.slice A0 n0 c0) ∧ wo.cell? ⟨w.heap.size, 1, none⟩ = some (.slice A1 n1 c1) ∧ wo.cell? ⟨w.heap.size, 2, none⟩ = some (.slice A2 n2 c2) ∧ w.heap.size < wo.heap.size := ⟨hx.c0, hx.c1, hx.c2, hx.lt⟩
        clear ho hx hbe
        by_cases hlt : (k : Int) ≤ (n : Int)
        · have x0 : 1 * 1 ≤ (k : Int) * st := Int.mul_le_mul (by omega) (by omega) (by omega) (by omega)
          have x1 : (k : Int) * st ≤ 10000 * 86400 := Int.mul_le_mul (by omega) (by omega) (by omega) (by omega)
          have hin := EJ.out k k0 (by omega)
          have DC := Lib.hid (DF.out ((k : Int) * st) wo HB.out hin)
          have hlo := LL.out _ hin
          have NV : Hid (cumV ds ps rows y st (m + 1) = (loV ds ps rows y ((k : Int) * st) : Nat)) := Lib.hid (by unfold cumV; rw [if_neg (by omega), ← hk.out])
          obtain ⟨X, hX⟩ : ∃ X, (k : Int) * st = X := ⟨_, rfl⟩
          rw [hX] at x0 x1 DC hlo NV
          generalize loV ds ps rows y X = l1 at *
          generalize hiV ds ps rows y X = l2 at *
          obtain ⟨D, hD⟩ : ∃ D, (l1 : Int) - b = D := ⟨_, rfl⟩
          have ND : Hid (D = blkF ds ps rows y st m) := Lib.hid (by unfold blkF; rw [NV.out, ← hb.out, hD])
          have dd0 : -4194304 ≤ D := by omega
          have dd1 : D ≤ 4194304 := by omega
          clear hin
          go_wp2_with fail
          refine (DC.out).mono ?_
          rintro e w4 ⟨rfl, b4⟩
          obtain ⟨W4, hW4⟩ : ∃ W4, w4.alloc (.cells #[.int .i64 l1, .int .i64 l2] 54) = W4 := ⟨_, rfl⟩
          have bx : Below wo.heap.size wo W4 := by rw [← hW4]; exact b4.alloc b4.size _
          have q0 : W4.cell? ⟨w4.heap.size, 0, none⟩ = some (.int .i64 l1) := by rw [← hW4, World.cell?_alloc_new]; rfl
          have B4 := Lib.hid (below_then HB.out bx HB.out.size)
          have X4 := Lib.hid (HX.out.below bx HX.out.lt)
          have O4 := Lib.hid (HO.out.below bx)
          have L4 : w.heap.size + 1 ≤ W4.heap.size := X4.out.lt
          have QL : Hid (w4.heap.size < W4.heap.size) := Lib.hid (by rw [← hW4]; simp)
          have HWL : Hid (wo.heap.size ≤ w4.heap.size) := Lib.hid b4.size
          have HOL := HO
          clear b4 bx HB HX HO p0 p1 p2
          have OB : Hid ((Value.slice A5 n5 c5).ownBlock ≠ some w4.heap.size) := Lib.hid (fun e => by have h1 := (HOL.out.row.lt _ e).2; have h2 := HWL.out; omega)
          have HF : Hid ((fl m (blkF ds ps rows y st)).length < 17592186044416) := Lib.hid (by rw [fl_length]; have := hk.out; omega)
          go_wp2_with (at_builtin; refine wpList_append_intG W4 (w.heap.size + 1) _ (fl m (blkF ds ps rows y st)) D rfl _ _ rfl rfl rfl O4.out L4 HF.out (by omega) ?_)
          intro v5 w5 ho5 hg5
          have q5 : w5.cell? ⟨w4.heap.size, 0, none⟩ = some (.int .i64 l1) := (hg5.cell (p := ⟨w4.heap.size, 0, none⟩) QL.out OB.out).trans q0
          have hb5 := hg5.below O4.out L4
          rw [ND.out, ← fl_succ] at ho5
          have O5 := Lib.hid ho5
          have X5 := Lib.hid (X4.out.below hb5 (Nat.lt_succ_self _))
          have B5 := Lib.hid (B4.out.trans (hb5.mono (Nat.le_succ _)))
          clear ho5 hb5 hg5 X4 B4 O4 q0
          go_wp2
          go_roundw
          case rel => exact ⟨k + 1, m + 1, l1, by go_num, rfl, Lib.hid (by rw [hk.out]), by omega, by omega, by omega, by omega, Lib.hid NV.out.symm, O5.out, X5.out, B5.out⟩
          case measure => simp [intOf]; try omega
        · have hkn : k = n + 1 := by omega
          have hm : m = n := by have := hk.out; omega
          subst hm
          obtain ⟨A5', n5', c5', e5, i5, g5⟩ := HO.out.ints
          injection e5 with e5 e6 e7
          subst e5 e6 e7
          have I5 := Lib.hid i5
          have G5 := Lib.hid g5
          clear i5 g5 hkn
          go_wp2
          go_returns
          exact ⟨_, _, _, rfl, I5.out, HB.out, fun ad e => by have := G5.out ad e; omega⟩
end Go.Proofs.Ytfhikdgdckfalaa

/- Sorting by swaps in plain functions: counts, ranges, insertion, rotation, the symmetric merge. No program in sight. -/
namespace Go.Proofs.Ytfhikdgdckfalaa
open Go.RowKit
set_option linter.unusedVariables false

def upd (F : Nat → Int) (k : Nat) (x : Int) : Nat → Int := fun j => if j = k then x else F j
theorem upd_at (F : Nat → Int) (k : Nat) (x : Int) : upd F k x k = x := if_pos rfl
theorem upd_ne (F : Nat → Int) {k j : Nat} (x : Int) (h : j ≠ k) : upd F k x j = F j := if_neg h
def cN (x : Int) (F : Nat → Int) : Nat → Int
  | 0 => 0
  | n + 1 => cN x F n + if F n = x then 1 else 0
theorem cN_congr {x : Int} {F G : Nat → Int} : ∀ {n : Nat}, (∀ k, k < n → F k = G k) → cN x F n = cN x G n
  | 0, _ => rfl
  | n + 1, h => by rw [cN, cN, cN_congr (n := n) (fun k hk => h k (by omega)), h n (by omega)]
theorem cN_upd {x : Int} {F : Nat → Int} {k : Nat} {v : Int} : ∀ {n : Nat}, k < n → cN x (upd F k v) n = cN x F n - (if F k = x then 1 else 0) + (if v = x then 1 else 0)
  | 0, h => absurd h (by omega)
  | n + 1, h => by
    rw [cN, cN]
    by_cases e : k = n
    · subst e
      rw [cN_congr (G := F) (fun j hj => upd_ne F v (by omega)), upd_at]
      omega
    · rw [cN_upd (n := n) (by omega), upd_ne F v (by omega)]
      omega
def swp (F : Nat → Int) (i j : Nat) : Nat → Int := upd (upd F i (F j)) j (F i)
theorem swp_j (F : Nat → Int) (i j : Nat) : swp F i j j = F i := upd_at _ _ _
theorem swp_i (F : Nat → Int) (i j : Nat) : swp F i j i = F j := by
  unfold swp
  by_cases h : i = j
  · subst h; rw [upd_at]
  · rw [upd_ne _ _ h, upd_at]
theorem swp_ne (F : Nat → Int) {i j k : Nat} (h1 : k ≠ i) (h2 : k ≠ j) : swp F i j k = F k := by
  unfold swp; rw [upd_ne _ _ h2, upd_ne _ _ h1]
theorem cN_swp {x : Int} {F : Nat → Int} {i j n : Nat} (hi : i < n) (hj : j < n) : cN x (swp F i j) n = cN x F n := by
  unfold swp
  rw [cN_upd hj, cN_upd hi]
  by_cases h : i = j
  · subst h; rw [upd_at]; omega
  · rw [upd_ne _ _ (by omega)]; omega

/-- G is F with the elements from a to b in another order. -/
structure Mv (a b n : Nat) (F G : Nat → Int) : Prop where
  out : ∀ k, ¬ (a ≤ k ∧ k < b) → G k = F k
  sub : ∀ k, a ≤ k → k < b → ∃ i, a ≤ i ∧ i < b ∧ G k = F i
  cnt : ∀ x, cN x G n = cN x F n
theorem Mv.refl (a b n : Nat) (F : Nat → Int) : Mv a b n F F := ⟨fun _ _ => rfl, fun k h1 h2 => ⟨k, h1, h2, rfl⟩, fun _ => rfl⟩
theorem Mv.trans {a b n : Nat} {F G H : Nat → Int} (h : Mv a b n F G) (k : Mv a b n G H) : Mv a b n F H :=
  ⟨fun i hi => (k.out i hi).trans (h.out i hi), fun i h1 h2 => by
    obtain ⟨j, j1, j2, e⟩ := k.sub i h1 h2
    obtain ⟨t, t1, t2, e2⟩ := h.sub j j1 j2
    exact ⟨t, t1, t2, e.trans e2⟩, fun x => (k.cnt x).trans (h.cnt x)⟩
theorem Mv.mono {a b a' b' n : Nat} {F G : Nat → Int} (h : Mv a b n F G) (ha : a' ≤ a) (hb : b ≤ b') : Mv a' b' n F G :=
  ⟨fun i hi => h.out i (by omega), fun i h1 h2 => by
    by_cases hh : a ≤ i ∧ i < b
    · obtain ⟨j, j1, j2, e⟩ := h.sub i hh.1 hh.2
      exact ⟨j, by omega, by omega, e⟩
    · exact ⟨i, h1, h2, h.out i hh⟩, h.cnt⟩
theorem Mv.swp {a b n : Nat} (F : Nat → Int) {i j : Nat} (i0 : a ≤ i) (i1 : i < b) (j0 : a ≤ j) (j1 : j < b) (hn : b ≤ n) : Mv a b n F (swp F i j) := by
  refine ⟨fun k hk => swp_ne F (by omega) (by omega), fun k h1 h2 => ?_, fun x => cN_swp (by omega) (by omega)⟩
  by_cases hj : k = j
  · subst hj; exact ⟨i, i0, i1, swp_j F i k⟩
  · by_cases hi : k = i
    · subst hi; exact ⟨j, j0, j1, swp_i F k j⟩
    · exact ⟨k, h1, h2, swp_ne F hi hj⟩
def Desc (a b : Nat) (F : Nat → Int) : Prop := ∀ i j, a ≤ i → i ≤ j → j < b → F j ≤ F i
theorem Desc.congr {a b : Nat} {F G : Nat → Int} (h : Desc a b F) (e : ∀ k, a ≤ k → k < b → G k = F k) : Desc a b G := fun i j h1 h2 h3 => by
  rw [e i h1 (by omega), e j (by omega) h3]; exact h i j h1 h2 h3
theorem Desc.one (a b : Nat) (F : Nat → Int) (h : b ≤ a + 1) : Desc a b F := fun i j h1 h2 h3 => by
  obtain rfl : i = j := by omega
  exact Int.le_refl _
theorem Desc.sub {a b a' b' : Nat} {F : Nat → Int} (h : Desc a b F) (ha : a ≤ a') (hb : b' ≤ b) : Desc a' b' F := fun i j h1 h2 h3 => h i j (by omega) h2 (by omega)
theorem Desc.glue {a m b : Nat} {F : Nat → Int} (h : Desc a m F) (k : Desc m b F) (c : ∀ i j, a ≤ i → i < m → m ≤ j → j < b → F j ≤ F i) : Desc a b F := fun i j h1 h2 h3 => by
  by_cases hj : j < m
  · exact h i j h1 h2 hj
  · by_cases hi : i < m
    · exact c i j h1 hi (by omega) h3
    · exact k i j (by omega) h2 h3

/-- Insertion: all but the element j are in order, and it is not less than what follows it. -/
structure Ins (a i j : Nat) (F : Nat → Int) : Prop where
  o : ∀ p q, a ≤ p → p ≤ q → q ≤ i → p ≠ j → q ≠ j → F q ≤ F p
  l : ∀ q, j ≤ q → q ≤ i → F q ≤ F j
theorem Ins.start {a i : Nat} {F : Nat → Int} (h : Desc a i F) : Ins a i i F :=
  ⟨fun p q h1 h2 h3 h4 h5 => h p q h1 h2 (by omega), fun q h1 h2 => Int.le_of_eq (by rw [Nat.le_antisymm h2 h1])⟩
theorem Ins.step {a i j : Nat} {F : Nat → Int} (h : Ins a i (j + 1) F) (ha : a ≤ j) (hj : j + 1 ≤ i) (hl : F j < F (j + 1)) : Ins a i j (swp F (j + 1) j) := by
  have e1 : swp F (j + 1) j j = F (j + 1) := swp_j F _ _
  have e2 : swp F (j + 1) j (j + 1) = F j := swp_i F _ _
  refine ⟨fun p q h1 h2 h3 h4 h5 => ?_, fun q h1 h2 => ?_⟩
  · by_cases hp : p = j + 1
    · subst hp
      rw [e2]
      by_cases hq : q = j + 1
      · subst hq; rw [e2]; exact Int.le_refl _
      · rw [swp_ne F hq h5]; exact h.o j q ha (by omega) h3 (by omega) hq
    · rw [swp_ne F hp h4]
      by_cases hq : q = j + 1
      · subst hq; rw [e2]; exact h.o p j h1 (by omega) (by omega) hp (by omega)
      · rw [swp_ne F hq h5]; exact h.o p q h1 h2 h3 hp hq
  · rw [e1]
    by_cases hq : q = j
    · subst hq; rw [e1]; exact Int.le_refl _
    · by_cases hq2 : q = j + 1
      · subst hq2; rw [e2]; omega
      · rw [swp_ne F hq2 hq]; exact h.l q (by omega) h2
theorem Ins.done {a i j : Nat} {F : Nat → Int} (h : Ins a i j F) (hx : j = a ∨ (a < j ∧ F j ≤ F (j - 1))) : Desc a (i + 1) F := fun p q h1 h2 h3 => by
  by_cases hpq : p = q
  · subst hpq; exact Int.le_refl _
  by_cases hp : p = j
  · subst hp; exact h.l q h2 (by omega)
  · by_cases hq : q = j
    · subst hq
      rcases hx with e | ⟨e1, e2⟩
      · omega
      · have := h.o p (q - 1) h1 (by omega) (by omega) hp (by omega)
        omega
    · exact h.o p q h1 h2 (by omega) hp hq

/-- Two ranges of k elements that change places. -/
def srF (F : Nat → Int) (x y k : Nat) : Nat → Int := fun j => if x ≤ j ∧ j < x + k then F (j - x + y) else if y ≤ j ∧ j < y + k then F (j - y + x) else F j
theorem srF_zero (F : Nat → Int) (x y : Nat) : srF F x y 0 = F := by
  funext j; unfold srF; rw [if_neg (by omega), if_neg (by omega)]
theorem srF_succ (F : Nat → Int) {x y k : Nat} (h : x + k < y ∨ y + k < x) : swp (srF F x y k) (x + k) (y + k) = srF F x y (k + 1) := by
  funext j
  have fx : srF F x y k (x + k) = F (x + k) := by unfold srF; rw [if_neg (by omega), if_neg (by omega)]
  have fy : srF F x y k (y + k) = F (y + k) := by unfold srF; rw [if_neg (by omega), if_neg (by omega)]
  by_cases h1 : j = y + k
  · subst h1
    rw [swp_j, fx]; unfold srF
    rw [if_neg (by omega), if_pos (by omega)]
    congr 1; omega
  · by_cases h2 : j = x + k
    · subst h2
      rw [swp_i, fy]; unfold srF
      rw [if_pos (by omega)]
      congr 1; omega
    · rw [swp_ne _ h2 h1]
      unfold srF
      by_cases h3 : x ≤ j ∧ j < x + k
      · rw [if_pos h3, if_pos (by omega)]
      · rw [if_neg h3, if_neg (c := x ≤ j ∧ j < x + (k + 1)) (by omega)]
        by_cases h4 : y ≤ j ∧ j < y + k
        · rw [if_pos h4, if_pos (by omega)]
        · rw [if_neg h4, if_neg (by omega)]
theorem Mv.sr (F : Nat → Int) {a b n x y : Nat} (hn : b ≤ n) : ∀ {k : Nat}, (x + k ≤ y ∨ y + k ≤ x) → a ≤ x → a ≤ y → x + k ≤ b → y + k ≤ b → Mv a b n F (srF F x y k)
  | 0, _, _, _, _, _ => by rw [srF_zero]; exact Mv.refl _ _ _ _
  | k + 1, h, h1, h2, h3, h4 => by
    rw [← srF_succ F (by omega)]
    exact (Mv.sr F hn (k := k) (by omega) h1 h2 (by omega) (by omega)).trans (Mv.swp _ (by omega) (by omega) (by omega) (by omega) hn)

/-- The range from a to b, turned so that what stood at m stands at a. -/
def rotF (F : Nat → Int) (a m b : Nat) : Nat → Int := fun k => if a ≤ k ∧ k < a + (b - m) then F (k - a + m) else if a + (b - m) ≤ k ∧ k < b then F (k - (b - m)) else F k
theorem rot_left {H : Nat → Int} {m i j : Nat} (hij : j < i) (him : i ≤ m) : rotF (srF H (m - i) m j) (m - (i - j)) m (m + j) = rotF H (m - i) m (m + j) := by
  funext k
  unfold rotF srF
  by_cases h1 : k < m - i
  · rw [if_neg (by omega), if_neg (by omega), if_neg (by omega), if_neg (by omega), if_neg (by omega), if_neg (by omega)]
  by_cases h2 : k < m - i + j
  · rw [if_neg (by omega), if_neg (by omega), if_pos (by omega), if_pos (by omega)]
  by_cases h3 : k < m - i + j + j
  · rw [if_pos (by omega), if_neg (by omega), if_pos (by omega), if_neg (c := m - i ≤ k ∧ k < m - i + (m + j - m)) (by omega), if_pos (by omega)]
    congr 1; omega
  by_cases h4 : k < m + j
  · rw [if_neg (by omega), if_pos (by omega), if_neg (by omega), if_neg (by omega), if_neg (by omega), if_pos (by omega)]
  · rw [if_neg (by omega), if_neg (by omega), if_neg (by omega), if_neg (by omega), if_neg (by omega), if_neg (by omega)]
theorem rot_right {H : Nat → Int} {m i j : Nat} (hij : i < j) (him : i ≤ m) : rotF (srF H (m - i) (m + j - i) i) (m - i) m (m + (j - i)) = rotF H (m - i) m (m + j) := by
  funext k
  unfold rotF srF
  by_cases h1 : k < m - i
  · rw [if_neg (by omega), if_neg (by omega), if_neg (by omega), if_neg (by omega), if_neg (by omega), if_neg (by omega)]
  by_cases h2 : k < m - i + (j - i)
  · rw [if_pos (by omega), if_neg (by omega), if_neg (by omega), if_pos (by omega)]
  by_cases h3 : k < m + (j - i)
  · rw [if_neg (by omega), if_pos (by omega), if_pos (by omega), if_pos (by omega)]
    congr 1; omega
  by_cases h4 : k < m + j
  · rw [if_neg (by omega), if_neg (by omega), if_neg (by omega), if_pos (by omega), if_neg (by omega), if_pos (by omega)]
    congr 1; omega
  · rw [if_neg (by omega), if_neg (by omega), if_neg (by omega), if_neg (by omega), if_neg (by omega), if_neg (by omega)]
theorem rot_same {H : Nat → Int} {m i : Nat} (him : i ≤ m) : srF H (m - i) m i = rotF H (m - i) m (m + i) := by
  funext k
  unfold rotF srF
  by_cases h1 : m - i ≤ k ∧ k < m - i + i
  · rw [if_pos h1, if_pos (show m - i ≤ k ∧ k < m - i + (m + i - m) by omega)]
  · rw [if_neg h1]
    by_cases h2 : m ≤ k ∧ k < m + i
    · rw [if_pos h2, if_neg (by omega), if_pos (by omega)]; congr 1; omega
    · rw [if_neg h2, if_neg (by omega), if_neg (by omega)]

/-- The element a, moved up to k. -/
def bubF (F : Nat → Int) (a k : Nat) : Nat → Int := fun t => if a ≤ t ∧ t < k then F (t + 1) else if t = k then F a else F t
theorem bub_zero (F : Nat → Int) (a : Nat) : bubF F a a = F := by
  funext t; unfold bubF; rw [if_neg (by omega)]; split
  · rename_i h; rw [h]
  · rfl
theorem bub_succ (F : Nat → Int) {a k : Nat} (h : a ≤ k) : swp (bubF F a k) k (k + 1) = bubF F a (k + 1) := by
  funext t
  have e1 : bubF F a k k = F a := by unfold bubF; rw [if_neg (by omega), if_pos rfl]
  have e2 : bubF F a k (k + 1) = F (k + 1) := by unfold bubF; rw [if_neg (by omega), if_neg (by omega)]
  by_cases h1 : t = k + 1
  · subst h1; rw [swp_j, e1]; unfold bubF; rw [if_neg (by omega), if_pos rfl]
  · by_cases h2 : t = k
    · subst h2; rw [swp_i, e2]; unfold bubF; rw [if_pos (by omega)]
    · rw [swp_ne _ h2 h1]; unfold bubF
      by_cases h3 : a ≤ t ∧ t < k
      · rw [if_pos h3, if_pos (by omega)]
      · rw [if_neg h3, if_neg h2, if_neg (by omega), if_neg h1]
theorem Mv.bub (F : Nat → Int) {a b n : Nat} (hn : b ≤ n) : ∀ {k : Nat}, a ≤ k → k < b → Mv a b n F (bubF F a k) := by
  intro k
  induction k with
  | zero => intro h h2; obtain rfl : a = 0 := by omega
            rw [bub_zero]; exact Mv.refl _ _ _ _
  | succ k ih =>
    intro h h2
    by_cases e : a = k + 1
    · subst e; rw [bub_zero]; exact Mv.refl _ _ _ _
    · rw [← bub_succ F (by omega)]
      exact (ih (by omega) (by omega)).trans (Mv.swp _ (by omega) (by omega) (by omega) (by omega) hn)
/-- The element m, moved down to k. -/
def bdF (F : Nat → Int) (m k : Nat) : Nat → Int := fun t => if k < t ∧ t ≤ m then F (t - 1) else if t = k then F m else F t
theorem bd_zero (F : Nat → Int) (m : Nat) : bdF F m m = F := by
  funext t; unfold bdF; rw [if_neg (by omega)]; split
  · rename_i h; rw [h]
  · rfl
theorem bd_succ (F : Nat → Int) {m k : Nat} (h : k + 1 ≤ m) : swp (bdF F m (k + 1)) (k + 1) k = bdF F m k := by
  funext t
  have e1 : bdF F m (k + 1) (k + 1) = F m := by unfold bdF; rw [if_neg (by omega), if_pos rfl]
  have e2 : bdF F m (k + 1) k = F k := by unfold bdF; rw [if_neg (by omega), if_neg (by omega)]
  by_cases h1 : t = k
  · subst h1; rw [swp_j, e1]; unfold bdF; rw [if_neg (by omega), if_pos rfl]
  · by_cases h2 : t = k + 1
    · subst h2; rw [swp_i, e2]; unfold bdF; rw [if_pos (by omega)]; rfl
    · rw [swp_ne _ h2 h1]; unfold bdF
      by_cases h3 : k + 1 < t ∧ t ≤ m
      · rw [if_pos h3, if_pos (by omega)]
      · rw [if_neg h3, if_neg h2, if_neg (by omega), if_neg h1]
theorem Mv.bd (F : Nat → Int) {a m n : Nat} (hn : m < n) {k : Nat} (h : k ≤ m) (ha : a ≤ k) : Mv a (m + 1) n F (bdF F m k) := by
  obtain ⟨d, rfl⟩ : ∃ d, m = k + d := ⟨m - k, by omega⟩
  suffices ∀ e k', k' + e = k + d → a ≤ k' → Mv a (k + d + 1) n F (bdF F (k + d) k') from this d k rfl ha
  intro e
  induction e with
  | zero => intro k' h1 h2; obtain rfl : k' = k + d := by omega
            rw [bd_zero]; exact Mv.refl _ _ _ _
  | succ e ih =>
    intro k' h1 h2
    rw [← bd_succ F (by omega)]
    exact (ih (k' + 1) (by omega) (by omega)).trans (Mv.swp _ (by omega) (by omega) (by omega) (by omega) (by omega))
/-- The one element at a goes where it belongs. -/
theorem bub_desc {F : Nat → Int} {a b i : Nat} (h : Desc (a + 1) b F) (h1 : a + 1 ≤ i) (h2 : i ≤ b) (hl : ∀ t, a + 1 ≤ t → t < i → F a < F t) (hr : i < b → F i ≤ F a) : Desc a b (bubF F a (i - 1)) := by
  intro p q p0 pq qb
  unfold bubF
  by_cases e1 : a ≤ p ∧ p < i - 1
  · rw [if_pos e1]
    by_cases e2 : a ≤ q ∧ q < i - 1
    · rw [if_pos e2]; exact h _ _ (by omega) (by omega) (by omega)
    · rw [if_neg e2]
      split
      · have := hl (p + 1) (by omega) (by omega); omega
      · exact h _ _ (by omega) (by omega) qb
  · rw [if_neg e1, if_neg (c := a ≤ q ∧ q < i - 1) (by omega)]
    by_cases e3 : p = i - 1
    · rw [if_pos e3]
      split
      · exact Int.le_refl _
      · have h4 := hr (by omega)
        have h5 := h i q (by omega) (by omega) qb
        omega
    · rw [if_neg e3, if_neg (by omega)]; exact h _ _ (by omega) pq qb
/-- The one element at m goes where it belongs. -/
theorem bd_desc {F : Nat → Int} {a m i : Nat} (h : Desc a m F) (h1 : a ≤ i) (h2 : i ≤ m) (hl : ∀ t, a ≤ t → t < i → F m ≤ F t) (hr : i < m → F i < F m) : Desc a (m + 1) (bdF F m i) := by
  intro p q p0 pq qb
  unfold bdF
  by_cases e1 : i < p ∧ p ≤ m
  · rw [if_pos e1, if_pos (by omega)]; exact h _ _ (by omega) (by omega) (by omega)
  · rw [if_neg e1]
    by_cases e3 : p = i
    · rw [if_pos e3]
      by_cases e2 : i < q ∧ q ≤ m
      · rw [if_pos e2]
        have h4 := hr (by omega)
        have h5 := h i (q - 1) (by omega) (by omega) (by omega)
        omega
      · rw [if_neg e2, if_pos (by omega)]; exact Int.le_refl _
    · rw [if_neg e3]
      by_cases e2 : i < q ∧ q ≤ m
      · rw [if_pos e2]; exact h _ _ p0 (by omega) (by omega)
      · rw [if_neg e2]
        split
        · exact hl p p0 (by omega)
        · exact h _ _ p0 pq (by omega)

/-- The cut of the symmetric merge: s was found between s0 and r0. -/
structure Cut (a m b mid s : Nat) (F : Nat → Int) : Prop where
  am : a < m
  mb : m < b
  m0 : a + b = 2 * mid ∨ a + b = 2 * mid + 1
  lo : m ≤ mid → a ≤ s ∧ s ≤ m
  hi : mid < m → mid + m ≤ s + b ∧ s ≤ mid
  le : (m ≤ mid ∧ s = a) ∨ (mid < m ∧ s + b = mid + m) ∨ (0 < s ∧ F (mid + m - s) ≤ F (s - 1))
  gt : (m ≤ mid ∧ s = m) ∨ (mid < m ∧ s = mid) ∨ F s < F (mid + m - 1 - s)
theorem Cut.facts {a m b mid s : Nat} {F : Nat → Int} (c : Cut a m b mid s F) : a ≤ s ∧ s ≤ m ∧ s ≤ mid ∧ m ≤ mid + m - s ∧ mid ≤ mid + m - s ∧ mid + m - s ≤ b ∧ a < mid ∧ mid < b := by
  have h1 := c.am
  have h2 := c.mb
  have h3 := c.m0
  by_cases h : m ≤ mid
  · have := c.lo h; omega
  · have := c.hi (by omega); omega
theorem rot_none {F : Nat → Int} {s m e : Nat} (h1 : s ≤ m) (h2 : m ≤ e) (h : s = m ∨ m = e) : rotF F s m e = F := by
  funext k
  unfold rotF
  rcases h with h | h
  · subst h
    by_cases hk : s ≤ k ∧ k < s + (e - s)
    · rw [if_pos hk]; congr 1; omega
    · rw [if_neg hk, if_neg (by omega)]
  · subst h
    by_cases hk : s + (m - m) ≤ k ∧ k < m
    · rw [if_neg (by omega), if_pos hk]; congr 1; omega
    · rw [if_neg (by omega), if_neg hk]
/-- What the rotation has made: two halves of two descending runs; the first half is above the second one. -/
structure Halves (a mid b s e : Nat) (G : Nat → Int) : Prop where
  d1 : Desc a s G
  d2 : Desc s mid G
  d3 : Desc mid e G
  d4 : Desc e b G
  x : ∀ i j, a ≤ i → i < mid → mid ≤ j → j < b → G j ≤ G i
theorem Cut.halves {a m b mid s : Nat} {F : Nat → Int} (c : Cut a m b mid s F) (h1 : Desc a m F) (h2 : Desc m b F) : Halves a mid b s (mid + m - s) (rotF F s m (mid + m - s)) := by
  obtain ⟨f1, f2, f3, f4, f5, f6, f7, f8⟩ := c.facts
  have g1 : ∀ k, k < s → rotF F s m (mid + m - s) k = F k := fun k hk => by unfold rotF; rw [if_neg (by omega), if_neg (by omega)]
  have g2 : ∀ k, s ≤ k → k < mid → rotF F s m (mid + m - s) k = F (k - s + m) := fun k hk hk2 => by unfold rotF; rw [if_pos (by omega)]
  have g3 : ∀ k, mid ≤ k → k < mid + m - s → rotF F s m (mid + m - s) k = F (k - (mid - s)) := fun k hk hk2 => by
    unfold rotF; rw [if_neg (by omega), if_pos (by omega)]; congr 1; omega
  have g4 : ∀ k, mid + m - s ≤ k → rotF F s m (mid + m - s) k = F k := fun k hk => by unfold rotF; rw [if_neg (by omega), if_neg (by omega)]
  refine ⟨(h1.sub (a' := a) (b' := s) (Nat.le_refl _) f2).congr fun k _ hk => g1 k hk, ?_, ?_, (h2.sub (a' := mid + m - s) (b' := b) f4 (Nat.le_refl _)).congr fun k hk _ => g4 k hk, ?_⟩
  · intro i j i0 ij jb
    rw [g2 i i0 (by omega), g2 j (by omega) jb]
    exact h2 _ _ (by omega) (by omega) (by omega)
  · intro i j i0 ij jb
    rw [g3 i i0 (by omega), g3 j (by omega) jb]
    exact h1 _ _ (by omega) (by omega) (by omega)
  · intro i j i0 i1 j0 j1
    -- the two ends
    have le : a < s → mid + m - s < b → F (mid + m - s) ≤ F (s - 1) := fun x y => by
      rcases c.le with h | h | h
      · omega
      · omega
      · exact h.2
    have gt : s < m → s < mid → F s < F (mid + m - 1 - s) := fun x y => by
      rcases c.gt with h | h | h
      · omega
      · omega
      · exact h
    by_cases hi : i < s
    · rw [g1 i hi]
      by_cases hj : j < mid + m - s
      · rw [g3 j j0 hj]; exact h1 _ _ i0 (by omega) (by omega)
      · rw [g4 j (by omega)]
        have k1 := le (by omega) (by omega)
        have k2 := h1 i (s - 1) i0 (by omega) (by omega)
        have k3 := h2 (mid + m - s) j (by omega) (by omega) j1
        omega
    · rw [g2 i (by omega) i1]
      by_cases hj : j < mid + m - s
      · rw [g3 j j0 hj]
        have k1 := gt (by omega) (by omega)
        have k2 := h2 (i - s + m) (mid + m - 1 - s) (by omega) (by omega) (by omega)
        have k3 := h1 s (j - (mid - s)) (by omega) (by omega) (by omega)
        omega
      · rw [g4 j (by omega)]
        exact h2 _ _ (by omega) (by omega) j1
theorem Halves.done {a mid b s e n : Nat} {G G1 H : Nat → Int} (h : Halves a mid b s e G) (m1 : Mv a mid n G G1) (d1 : Desc a mid G1) (m2 : Mv mid b n G1 H) (d2 : Desc mid b H) : Desc a b H := by
  refine (d1.congr fun k k0 k1 => m2.out k (by omega)).glue d2 fun i j i0 i1 j0 j1 => ?_
  rw [m2.out i (by omega)]
  obtain ⟨x, x0, x1, ex⟩ := m1.sub i i0 i1
  obtain ⟨y, y0, y1, ey⟩ := m2.sub j j0 j1
  rw [ex, ey, m1.out y (by omega)]
  exact h.x x y x0 x1 y0 y1
theorem cN_nonneg (x : Int) (F : Nat → Int) : ∀ n, 0 ≤ cN x F n
  | 0 => Int.le_refl _
  | n + 1 => by have := cN_nonneg x F n; rw [cN]; split <;> omega
theorem cN_pos {x : Int} {F : Nat → Int} : ∀ {n : Nat}, 0 < cN x F n → ∃ k, k < n ∧ F k = x
  | 0, h => absurd h (by simp [cN])
  | n + 1, h => by
    by_cases e : F n = x
    · exact ⟨n, by omega, e⟩
    · rw [cN, if_neg e] at h
      obtain ⟨k, h1, h2⟩ := cN_pos (x := x) (F := F) (n := n) (by omega)
      exact ⟨k, by omega, h2⟩
theorem cN_at {F : Nat → Int} {k : Nat} : ∀ {n : Nat}, k < n → 0 < cN (F k) F n
  | 0, h => absurd h (by omega)
  | n + 1, h => by
    rw [cN]
    by_cases e : k = n
    · subst e; have := cN_nonneg (F k) F k; rw [if_pos rfl]; omega
    · have := cN_at (F := F) (k := k) (n := n) (by omega); split <;> omega
/-- Two descending orders of the same integers are one. -/
theorem desc_one {F G : Nat → Int} : ∀ {n : Nat}, Desc 0 n F → Desc 0 n G → (∀ x, cN x F n = cN x G n) → ∀ k, k < n → F k = G k
  | 0, _, _, _, _, h => absurd h (by omega)
  | n + 1, hF, hG, hc, k, hk => by
    have e : F n = G n := by
      obtain ⟨i, i1, i2⟩ := cN_pos (x := F n) (F := G) (n := n + 1) (by rw [← hc]; exact cN_at (by omega))
      obtain ⟨j, j1, j2⟩ := cN_pos (x := G n) (F := F) (n := n + 1) (by rw [hc]; exact cN_at (by omega))
      have := hF j n (by omega) (by omega) (by omega)
      have := hG i n (by omega) (by omega) (by omega)
      omega
    by_cases hkn : k = n
    · subst hkn; exact e
    · refine desc_one (n := n) (hF.sub (Nat.le_refl _) (by omega)) (hG.sub (Nat.le_refl _) (by omega)) (fun x => ?_) k (by omega)
      have := hc x
      rw [cN, cN, e] at this
      omega
theorem Mv.rot {a b n m : Nat} (hn : b ≤ n) : ∀ (k i j : Nat) (H : Nat → Int), i + j ≤ k → 0 < i → 0 < j → i ≤ m → a ≤ m - i → m + j ≤ b → Mv a b n H (rotF H (m - i) m (m + j))
  | 0, i, j, H, h, hi, _, _, _, _ => absurd h (by omega)
  | k + 1, i, j, H, h, hi, hj, him, ha, hb => by
    rcases Nat.lt_trichotomy i j with hij | hij | hij
    · rw [← rot_right hij him]
      exact (Mv.sr H hn (x := m - i) (y := m + j - i) (k := i) (by omega) (by omega) (by omega) (by omega) (by omega)).trans (Mv.rot hn k i (j - i) _ (by omega) (by omega) (by omega) him ha (by omega))
    · subst hij
      rw [← rot_same him]
      exact Mv.sr H hn (by omega) (by omega) (by omega) (by omega) (by omega)
    · rw [← rot_left hij him]
      exact (Mv.sr H hn (x := m - i) (y := m) (k := j) (by omega) (by omega) (by omega) (by omega) (by omega)).trans (Mv.rot hn k (i - j) j _ (by omega) (by omega) (by omega) (by omega) (by omega) hb)
theorem Mv.rotA {a b n s m e : Nat} (F : Nat → Int) (hn : b ≤ n) (ha : a ≤ s) (h1 : s < m) (h2 : m < e) (he : e ≤ b) : Mv a b n F (rotF F s m e) := by
  have := Mv.rot (a := a) (m := m) hn (m - s + (e - m)) (m - s) (e - m) F (Nat.le_refl _) (by omega) (by omega) (by omega) (by omega) (by omega)
  rwa [show m - (m - s) = s by omega, show m + (e - m) = e by omega] at this
end Go.Proofs.Ytfhikdgdckfalaa

/- Blocks around a peak, as a plain function. No program in sight. -/
namespace Go.Proofs.Ytfhikdgdckfalaa
open Go.RowKit
set_option linter.unusedVariables false

/-- What has been placed: the next free places to the left, to the right, the row. -/
structure PlS where
  l : Int
  r : Int
  f : Nat → Int
def plA (n p : Nat) (S : Nat → Int) : Nat → PlS
  | 0 => ⟨(p : Int) - 1, (p : Int) + 1, fun _ => 0⟩
  | k + 1 =>
    let s := plA n p S k
    if k = 0 then ⟨s.l, s.r, upd s.f p (S 0)⟩
    else if (s.r < n ∧ k % 2 = 1) ∨ s.l < 0 then ⟨s.l, s.r + 1, upd s.f s.r.toNat (S k)⟩
    else ⟨s.l - 1, s.r, upd s.f s.l.toNat (S k)⟩
theorem plA_one (n p : Nat) (S : Nat → Int) : plA n p S 1 = ⟨(p : Int) - 1, (p : Int) + 1, upd (fun _ => 0) p (S 0)⟩ := rfl
theorem plA_right {n p : Nat} {S : Nat → Int} {k : Nat} (h : ¬ k = 0) (c : ((plA n p S k).r < n ∧ k % 2 = 1) ∨ (plA n p S k).l < 0) : plA n p S (k + 1) = ⟨(plA n p S k).l, (plA n p S k).r + 1, upd (plA n p S k).f (plA n p S k).r.toNat (S k)⟩ := by
  rw [plA]; rw [if_neg h, if_pos c]
theorem plA_left {n p : Nat} {S : Nat → Int} {k : Nat} (h : ¬ k = 0) (c : ¬ (((plA n p S k).r < n ∧ k % 2 = 1) ∨ (plA n p S k).l < 0)) : plA n p S (k + 1) = ⟨(plA n p S k).l - 1, (plA n p S k).r, upd (plA n p S k).f (plA n p S k).l.toNat (S k)⟩ := by
  rw [plA]; rw [if_neg h, if_neg c]
structure PlOk (n p k : Nat) (l r : Int) : Prop where
  l0 : -1 ≤ l
  l1 : l < p
  r0 : p < r
  r1 : r ≤ n
  s : r - l - 1 = k
theorem plA_ok {n p : Nat} (S : Nat → Int) (hp : p < n) : ∀ k, k + 1 ≤ n → PlOk n p (k + 1) (plA n p S (k + 1)).l (plA n p S (k + 1)).r
  | 0, _ => by rw [plA_one]; exact ⟨by simp only []; omega, by simp only []; omega, by simp only []; omega, by simp only []; omega, by simp only []; omega⟩
  | k + 1, h => by
    have ih := plA_ok S hp k (by omega)
    by_cases c : ((plA n p S (k + 1)).r < n ∧ (k + 1) % 2 = 1) ∨ (plA n p S (k + 1)).l < 0
    · rw [plA_right (by omega) c]
      have h1 := ih.l0; have h2 := ih.l1; have h3 := ih.r0; have h4 := ih.r1; have h5 := ih.s
      exact ⟨by simp only []; omega, by simp only []; omega, by simp only []; omega, by simp only []; omega, by simp only []; omega⟩
    · rw [plA_left (by omega) c]
      have h1 := ih.l0; have h2 := ih.l1; have h3 := ih.r0; have h4 := ih.r1; have h5 := ih.s
      have : ¬ (plA n p S (k + 1)).l < 0 := fun h => c (.inr h)
      exact ⟨by simp only []; omega, by simp only []; omega, by simp only []; omega, by simp only []; omega, by simp only []; omega⟩
theorem plA_congr {n p : Nat} {S T : Nat → Int} : ∀ k, (∀ j, j < k → S j = T j) → plA n p S k = plA n p T k
  | 0, _ => rfl
  | k + 1, h => by
    rw [plA, plA, plA_congr k (fun j hj => h j (by omega)), h k (by omega)]
    by_cases hk : k = 0
    · subst hk; rw [if_pos rfl, if_pos rfl, h 0 (by omega)]
    · rw [if_neg hk, if_neg hk]
/-- The row of all blocks. -/
def plL (n p : Nat) (S : Nat → Int) : List Int := fl n (plA n p S n).f
theorem plA_rng {n p : Nat} {S : Nat → Int} {a b : Int} (h0 : a ≤ 0 ∧ 0 ≤ b) : ∀ k, (∀ j, j < k → a ≤ S j ∧ S j ≤ b) → ∀ i, a ≤ (plA n p S k).f i ∧ (plA n p S k).f i ≤ b
  | 0, _, i => h0
  | k + 1, h, i => by
    have ih := plA_rng (n := n) (p := p) (S := S) h0 k (fun j hj => h j (by omega)) i
    have hk := h k (by omega)
    rw [plA]
    split
    · show a ≤ upd _ _ _ _ ∧ upd _ _ _ _ ≤ b
      unfold upd; split
      · exact h 0 (by omega)
      · exact ih
    · split
      · show a ≤ upd _ _ _ _ ∧ upd _ _ _ _ ≤ b
        unfold upd; split
        · exact hk
        · exact ih
      · show a ≤ upd _ _ _ _ ∧ upd _ _ _ _ ≤ b
        unfold upd; split
        · exact hk
        · exact ih
end Go.Proofs.Ytfhikdgdckfalaa
