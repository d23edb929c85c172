/- Centre of the reference and of the program. -/
import Derived.Test.YtlkocedhhdknoaaCentreLaw
import Derived.Test.YtlkocedhhdknoaaMom
namespace Go.Proofs.Ytlkocedhhdknoaa
open Go.RowKit
set_option linter.unusedVariables false

abbrev fracO (a b : Int) : Obj := Obj.cells #[.int .i64 a, .int .i64 b] 52

theorem keepA {w w3 : World} (b : Below (w.alloc (fracO 0 0)).heap.size (w.alloc (fracO 0 0)) w3) : w3.cell? ⟨w.heap.size, 0, none⟩ = some (.int .i64 0) ∧ w3.cell? ⟨w.heap.size, 1, none⟩ = some (.int .i64 0) ∧ w3.frozen? ⟨w.heap.size, 0, none⟩ = false ∧ w3.frozen? ⟨w.heap.size, 1, none⟩ = false :=
  ⟨(b.cell (p := ⟨w.heap.size, 0, none⟩) (by simp)).trans (by go_simp), (b.cell (p := ⟨w.heap.size, 1, none⟩) (by simp)).trans (by go_simp), (b.frozen (p := ⟨w.heap.size, 0, none⟩) (by simp)).trans (by go_simp), (b.frozen (p := ⟨w.heap.size, 1, none⟩) (by simp)).trans (by go_simp)⟩

theorem keepB {w w3 : World} {q : Nat} (b : Below ((w.drewN q).alloc (fracO 0 0)).heap.size ((w.drewN q).alloc (fracO 0 0)) w3) : Below w.heap.size w w3 :=
  below_then ((below_drewN (Below.refl _ _) q).alloc (Nat.le_refl _) _) b (by simp)
theorem keepC {w w3 : World} {q : Nat} (b : Below (w.drewN q).heap.size (w.drewN q) w3) : Below w.heap.size w w3 := (below_drewN (Below.refl _ _) q).trans b
theorem lateB {w w3 : World} (o : Obj) (b : Below w.heap.size w w3) : Below w.heap.size w (w3.alloc o) := b.alloc b.size o
theorem setF0 {w3 : World} (p : Nat) (x y : Int) (h : w3.cell? ⟨p, 0, none⟩ = some (.int .i64 0)) : ((w3.setCell ⟨p, 0, none⟩ (.int .i64 x)).setCell ⟨p, 1, none⟩ (.int .i64 y)).cell? ⟨p, 0, none⟩ = some (.int .i64 x) := by
  rw [World.cell?_setCell_other _ _ _ _ (by simp)]; exact World.cell?_setCell_same w3 _ _ h
theorem setF1 {w3 : World} (p : Nat) (x y : Int) (h : w3.cell? ⟨p, 1, none⟩ = some (.int .i64 0)) : ((w3.setCell ⟨p, 0, none⟩ (.int .i64 x)).setCell ⟨p, 1, none⟩ (.int .i64 y)).cell? ⟨p, 1, none⟩ = some (.int .i64 y) :=
  World.cell?_setCell_same (u := .int .i64 0) _ _ _ (by rw [World.cell?_setCell_other w3 _ _ _ (by simp)]; exact h)

set_option maxHeartbeats 1000000 in
theorem CentreR_bad {A : Option Addr} {n c : Nat} {zs : List Int} (w : World) (h : Ints w A n c zs) (hs : seriesB zs = false) :
    Calls Try.prog 36 #[.slice A n c] w (RetF ((0, 0), 1) w) := by
  have sr := Series_ref (A := A) (n := n) (c := c) (zs := zs) (w.alloc (fracO 0 0)) (h.alloc _)
  rw [hs] at sr
  have SR := Lib.hid sr
  clear sr h
  go_enter Try.func36, Try.ntmps36
  go_wp2_with fail
  refine SR.out.mono ?_
  rintro e w1 ⟨rfl, rfl⟩
  go_wp2
  go_returns
  exact ⟨rfl, (Below.refl _ _).alloc (Nat.le_refl _) _⟩

set_option maxHeartbeats 1000000 in
theorem CentreR_in {A : Option Addr} {n c : Nat} {zs : List Int} (w : World) (h : Ints w A n c zs) (hs : seriesB zs = true) (ok : CenOk zs) :
    Calls Try.prog 36 #[.slice A n c] w (RetF (MakeV (mN zs zs.length) (sN zs zs.length)) w) := by
  have HL := Lib.hid h.len
  have hcap := h.cap
  have hmax := h.max
  rw [h.len]
  have hn : n ≤ 100 := by have := ok.len; have := h.len; omega
  have OK := Lib.hid ok
  have HI := Lib.hid (h.alloc (fracO 0 0))
  have sr := Series_ref (A := A) (n := n) (c := c) (zs := zs) (w.alloc (fracO 0 0)) (h.alloc _)
  rw [hs] at sr
  have SR := Lib.hid sr
  have su := Sum_ref (A := A) (n := n) (c := c) (zs := zs) (w.alloc (fracO 0 0)) (h.alloc _) (fun k hk => by
    rw [ok.sumF k (by rw [h.len]; omega)]; have := ok.s k (by rw [h.len]; omega); omega)
  rw [show sumL zs = (sN zs n : Int) from by unfold sumL; rw [ok.sumF _ (Nat.le_refl _), h.len]] at su
  have SU := Lib.hid su
  have hS := ok.s n (by rw [h.len]; omega)
  have hM := ok.m n (by rw [h.len]; omega)
  clear sr su
  have hm := fun W => MakeR_calls (mN zs n) (sN zs n) (by omega) (by omega) W
  have hsl : (sN zs n : Int) ≤ 109951162777600 := by omega
  have hVz : sN zs n = 0 → MakeV (mN zs n) (sN zs n) = ((0, 0), 16) := fun h => by unfold MakeV; rw [if_pos h]
  generalize MakeV (mN zs n) (sN zs n) = V at hm hVz ⊢
  by_cases h0 : sN zs n = 0
  · rw [h0] at hm SU
    have hV : V = ((0, 0), 16) := hVz h0
    subst hV
    go_enter Try.func36, Try.ntmps36
    go_wp2_with fail
    refine SR.out.mono ?_
    rintro e w1 ⟨rfl, rfl⟩
    go_wp2_with fail
    refine SU.out.mono ?_
    rintro e w1 ⟨rfl, rfl⟩
    go_wp2
    go_returns
    exact ⟨rfl, (Below.refl _ _).alloc (Nat.le_refl _) _⟩
  · have hs0 : ((sN zs n : Int) == 0) = false := by simp [h0]
    generalize sN zs n = S at *
    have HM := Lib.hid hm
    clear hm h ok hs hVz
    go_enter Try.func36, Try.ntmps36
    go_wp2_with fail
    refine SR.out.mono ?_
    rintro e w1 ⟨rfl, rfl⟩
    go_wp2_with fail
    refine SU.out.mono ?_
    rintro e w1 ⟨rfl, rfl⟩
    go_wp2
    go_loop [4, 5] (fun u i => ∃ k : Nat, k ≤ n ∧ i = .int .i64 k ∧ u = .int .i64 (mN zs k : Nat)) (fun _ i => n - (intOf i).toNat)
    case atStart => exact ⟨0, Nat.zero_le _, rfl, rfl⟩
    case round =>
      obtain ⟨k, hk, rfl, rfl⟩ := hrel
      by_cases hlt : k < n
      · have hv := OK.out.v (show k < zs.length by rw [HL.out]; exact hlt)
        have hvl := OK.out.vle (show k < zs.length by rw [HL.out]; exact hlt)
        have hml := OK.out.m k (by rw [HL.out]; omega)
        obtain ⟨ad, rfl, hl, hc⟩ := HI.out.at_ hlt
        rw [hv] at hc
        have HN : Hid (mN zs (k + 1) = mN zs k + k * vN zs k) := Lib.hid rfl
        clear hv
        generalize vN zs k = v at *
        generalize mN zs k = M at *
        obtain ⟨p, hp⟩ : ∃ p, k * v = p := ⟨_, rfl⟩
        have hpi : (k : Int) * (v : Int) = (p : Int) := by rw [← hp, Int.natCast_mul]
        have hpl : p ≤ 109951162777600 := by rw [← hp]; exact Nat.mul_le_mul (show k ≤ 100 by omega) hvl
        rw [hp] at HN
        have hML : M ≤ 10995116277760000 := by omega
        clear hp hml
        go_wp2
        go_round
        case rel => exact ⟨k + 1, by omega, by go_num, by rw [HN.out]; go_num⟩
        case measure => simp [intOf]; try omega
      · obtain rfl : k = n := by omega
        go_wp2_with fail
        refine SU.out.mono ?_
        rintro e w1 ⟨rfl, rfl⟩
        go_wp2_with fail
        refine (HM.out _).mono ?_
        rintro e w1 ⟨rfl, b1⟩
        have r0 : w1.cell? ⟨w.heap.size, 0, none⟩ = some (.int .i64 0) := (b1.cell (p := ⟨w.heap.size, 0, none⟩) (by simp)).trans (by go_simp)
        have r1 : w1.cell? ⟨w.heap.size, 1, none⟩ = some (.int .i64 0) := (b1.cell (p := ⟨w.heap.size, 1, none⟩) (by simp)).trans (by go_simp)
        have z0 : w1.frozen? ⟨w.heap.size, 0, none⟩ = false := (b1.frozen (p := ⟨w.heap.size, 0, none⟩) (by simp)).trans (by go_simp)
        have z1 : w1.frozen? ⟨w.heap.size, 1, none⟩ = false := (b1.frozen (p := ⟨w.heap.size, 1, none⟩) (by simp)).trans (by go_simp)
        have BB : Hid (Below w.heap.size w w1) := Lib.hid (below_then ((Below.refl _ _).alloc (Nat.le_refl _) _) b1 (by simp))
        clear b1
        have q0 : (w1.setCell ⟨w.heap.size, 0, none⟩ (.int .i64 V.1.1)).cell? ⟨w.heap.size, 0, none⟩ = some (.int .i64 V.1.1) := World.cell?_setCell_same w1 _ _ r0
        have q1 : ((w1.setCell ⟨w.heap.size, 0, none⟩ (.int .i64 V.1.1)).setCell ⟨w.heap.size, 1, none⟩ (.int .i64 V.1.2)).cell? ⟨w.heap.size, 1, none⟩ = some (.int .i64 V.1.2) := World.cell?_setCell_same (u := .int .i64 0) _ _ _ (by rw [World.cell?_setCell_other w1 _ _ _ (by simp)]; exact r1)
        go_wp2
        refine bodyPost_ret (v := .tuple #[.agg #[.int .i64 V.1.1, .int .i64 V.1.2], .int .i64 V.2]) (by simp [results, Try.results36, go_sem, q0, q1]) rfl ?_
        exact ⟨rfl, (BB.out.setCell (by simp) _).setCell (by simp) _⟩
end Go.Proofs.Ytlkocedhhdknoaa
