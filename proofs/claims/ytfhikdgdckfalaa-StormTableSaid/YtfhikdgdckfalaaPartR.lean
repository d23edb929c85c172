/- Parts of the reference: the blocks of a table. -/
import Derived.Test.YtfhikdgdckfalaaGivR
import Derived.Test.YtfhikdgdckfalaaMB09
import Derived.Test.YtfhikdgdckfalaaMB13
namespace Go.Proofs.Ytfhikdgdckfalaa
open Go.RowKit
set_option linter.unusedVariables false

set_option maxRecDepth 100000 in
set_option maxHeartbeats 4000000 in
theorem Parts_calls {A0 A1 A2 : Option Addr} {n0 c0 n1 c1 n2 c2 : Nat} {ds ps : List Int} {rows : List (List Int)} (y st : Int) (n : Nat) (w : World) (h0 : Ints w A0 n0 c0 ds) (h1 : Ints w A1 n1 c1 ps) (h2 : Tab w A2 n2 c2 rows) (ok : VOk ds ps rows)
    (hs : 1 ≤ st ∧ st ≤ 86400) (hn : 1 ≤ n ∧ n ≤ 10000) (he : endsB ds ps y st n = true) :
    Calls Try.prog 52 #[tabA A0 n0 c0 A1 n1 c1 A2 n2 c2, .int .i64 y, .int .i64 st, .int .i64 n] w (Ret1 (blkL ds ps rows y st n) w) := by
  obtain ⟨W0, hW0⟩ : ∃ W0, w.alloc (tabO A0 n0 c0 A1 n1 c1 A2 n2 c2) = W0 := ⟨_, rfl⟩
  have hb0 : Below w.heap.size w W0 := by rw [← hW0]; exact (Below.refl _ _).alloc (Nat.le_refl _) _
  have X3 := Lib.hid (show HBox W0 w.heap.size (.slice A0 n0 c0) (.slice A1 n1 c1) (.slice A2 n2 c2) by rw [← hW0]; exact HBox.made _ _ _ _ _)
  have DF := Lib.hid (fun (x : Int) W (B : Below w.heap.size w W) (hi : inT ds ps x y = true) => (by
    unfold inT at hi
    rw [Bool.and_eq_true] at hi
    have d0 : 0 < ds.length := by have := ok.1.2.2.1; omega
    have p0 : 0 < ps.length := by have := ok.2.1.2.2.1; omega
    have e1 := (plc_in ok.tok.da d0).1 hi.1
    have e2 := (plc_in ok.tok.pa p0).1 hi.2
    exact DepthR_calls x y W (h0.below B) (h1.below B) (h2.below B) ok.tok ⟨d0, e1.1, e1.2⟩ ⟨p0, e2.1, e2.2⟩ :
      Calls Try.prog 31 #[tabA A0 n0 c0 A1 n1 c1 A2 n2 c2, .int .i64 x, .int .i64 y] W fun e w' => (∃ hi : Int, e = .returned (.agg #[.int .i64 (loV ds ps rows y x : Nat), .int .i64 hi])) ∧ Below W.heap.size W w'))
  have EJ := Lib.hid (fun k (k1 : 1 ≤ k) (k2 : k ≤ n) => ends_in (k := k) ok.1.asc (by have := ok.1.2.2.1; omega) (by omega) he k1 k2)
  have LL := Lib.hid (fun x (hi : inT ds ps x y = true) => loV_le ok.tok hi)
  obtain ⟨n00, n01⟩ := hn
  obtain ⟨s00, s01⟩ := hs
  have B3 := Lib.hid hb0
  have kl : w.heap.size < W0.heap.size := X3.out.lt
  unfold blkL
  clear h0 h1 h2 ok hb0 he
  go_enter Try.func52, Try.ntmps52
  go_wp2
  go_loopw [9, 10, 11] (fun v vb vk wr => ∃ (k m : Nat) (b : Int), vk = .int .i64 k ∧ vb = .int .i64 b ∧ Hid (k = m + 1) ∧ 1 ≤ k ∧ k ≤ n + 1 ∧ 0 ≤ b ∧ b ≤ 4194304 ∧ Hid (b = cumV ds ps rows y st m) ∧ Own wr (w.heap.size + 1) v (fl m (blkF ds ps rows y st)) ∧ HBox wr w.heap.size (.slice A0 n0 c0) (.slice A1 n1 c1) (.slice A2 n2 c2) ∧ Below w.heap.size w wr) (fun _ _ vk _ => n + 1 - (intOf vk).toNat)
  case atStart => exact ⟨1, 0, 0, rfl, rfl, Lib.hid rfl, by omega, by omega, by omega, by omega, Lib.hid rfl, Own.nil _ _, X3.out, B3.out⟩
  case round =>
    clear X3 B3
    obtain ⟨k, m, b, rfl, rfl, hk, k0, k1, b0, b1, hb, ho, hx, hbe⟩ := hrel
    generalize wr = wo at *
    have HO := Lib.hid ho
    have HX := Lib.hid hx
    have HB := Lib.hid hbe
    obtain ⟨A5, n5, c5, e5, -, -⟩ := ho.ints
    subst e5
    obtain ⟨p0, p1, p2, pl⟩ : wo.cell? ⟨w.heap.size, 0, none⟩ = some (.slice A0 n0 c0) ∧ wo.cell? ⟨w.heap.size, 1, none⟩ = some (.slice A1 n1 c1) ∧ wo.cell? ⟨w.heap.size, 2, none⟩ = some (.slice A2 n2 c2) ∧ w.heap.size < wo.heap.size := ⟨hx.c0, hx.c1, hx.c2, hx.lt⟩
    clear ho hx hbe
    by_cases hlt : (k : Int) ≤ (n : Int)
    · have x0 : 1 * 1 ≤ (k : Int) * st := Int.mul_le_mul (by omega) (by omega) (by omega) (by omega)
      have x1 : (k : Int) * st ≤ 10000 * 86400 := Int.mul_le_mul (by omega) (by omega) (by omega) (by omega)
      have hin := EJ.out k k0 (by omega)
      have DC := Lib.hid (DF.out ((k : Int) * st) wo HB.out hin)
      have hlo := LL.out _ hin
      have NV : Hid (cumV ds ps rows y st (m + 1) = (loV ds ps rows y ((k : Int) * st) : Nat)) := Lib.hid (by unfold cumV; rw [if_neg (by omega), ← hk.out])
      obtain ⟨X, hX⟩ : ∃ X, (k : Int) * st = X := ⟨_, rfl⟩
      rw [hX] at x0 x1 DC hlo NV
      generalize loV ds ps rows y X = l1 at *
      obtain ⟨D, hD⟩ : ∃ D, (l1 : Int) - b = D := ⟨_, rfl⟩
      have ND : Hid (D = blkF ds ps rows y st m) := Lib.hid (by unfold blkF; rw [NV.out, ← hb.out, hD])
      have dd0 : -4194304 ≤ D := by omega
      have dd1 : D ≤ 4194304 := by omega
      have hfd : ∀ (h : Int) (w : World), (Instr.field 54 (.agg #[.int .i64 (l1 : Nat), .int .i64 h]) 0).run Try.prog w = .ok (.int .i64 (l1 : Nat)) w := fun _ _ => by kernel_rfl
      clear hin
      go_wp2_with fail
      refine (DC.out).mono ?_
      rintro e w4 ⟨⟨l2, rfl⟩, b4⟩
      have B4 := Lib.hid (below_then HB.out b4 HB.out.size)
      have X4 := Lib.hid (HX.out.below b4 HX.out.lt)
      have O4 := Lib.hid (HO.out.below b4)
      have L4 : w.heap.size + 1 ≤ w4.heap.size := X4.out.lt
      clear b4 HB HX HO p0 p1 p2
      have hfd := hfd l2
      have HF : Hid ((fl m (blkF ds ps rows y st)).length < 17592186044416) := Lib.hid (by rw [fl_length]; have := hk.out; omega)
      go_wp2_with (at_builtin; refine wpList_append_intG w4 (w.heap.size + 1) _ (fl m (blkF ds ps rows y st)) D rfl _ _ rfl rfl rfl O4.out L4 HF.out (by omega) ?_)
      intro v5 w5 ho5 hg5
      have hb5 := hg5.below O4.out L4
      rw [ND.out, ← fl_succ] at ho5
      have O5 := Lib.hid ho5
      have X5 := Lib.hid (X4.out.below hb5 (Nat.lt_succ_self _))
      have B5 := Lib.hid (B4.out.trans (hb5.mono (Nat.le_succ _)))
      clear ho5 hb5 hg5 X4 B4 O4
      go_wp2
      go_roundw
      case rel => exact ⟨k + 1, m + 1, l1, by go_num, rfl, Lib.hid (by rw [hk.out]), by omega, by omega, by omega, by omega, Lib.hid NV.out.symm, O5.out, X5.out, B5.out⟩
      case measure => simp [intOf]; try omega
    · have hkn : k = n + 1 := by omega
      have hm : m = n := by have := hk.out; omega
      subst hm
      obtain ⟨A5', n5', c5', e5, i5, g5⟩ := HO.out.ints
      injection e5 with e5 e6 e7
      subst e5 e6 e7
      have I5 := Lib.hid i5
      have G5 := Lib.hid g5
      clear i5 g5 hkn
      go_wp2
      go_ret
      exact ⟨_, _, _, rfl, I5.out, HB.out, fun ad e => by have := G5.out ad e; omega⟩
end Go.Proofs.Ytfhikdgdckfalaa
