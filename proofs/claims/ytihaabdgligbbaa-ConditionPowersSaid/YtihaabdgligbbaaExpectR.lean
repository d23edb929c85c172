/- Expected of the reference. -/
import Derived.Test.YtihaabdgligbbaaExpect
namespace Go.Proofs.Ytihaabdgligbbaa
open Go.RowKit
set_option linter.unusedVariables false

set_option maxHeartbeats 1000000 in
theorem Expected_ref {A A' : Option Addr} {n c n' c' : Nat} {ts : List (List Int)} {l : List Int} (y : Int) (w : World) (h : Tab w A n c ts) (h' : Ints w A' n' c' l) :
    Calls Try.prog 15 #[.slice A n c, .slice A' n' c', .int .i64 y] w (RetF (ExpV ts l y) w) := by
  have af := After_ref y (w.alloc (fracO 0 0)) (h.alloc _) (h'.alloc _)
  have hst := after_stock (ts := ts) (l := l) (y := y)
  obtain ⟨V, hV⟩ : ∃ V, ExpV ts l y = V := ⟨_, rfl⟩
  rw [hV]
  unfold ExpV at hV
  have HV := Lib.hid hV
  clear h h' hV
  generalize AfterV ts l y = R at *
  obtain ⟨S, x⟩ := R
  have AF := Lib.hid af
  have HST := Lib.hid hst
  clear af hst
  go_enter Try.func15, Try.ntmps15
  go_wp2_with fail
  refine AF.out.mono ?_
  rintro e w1 ⟨B, m, d, rfl, hi, hb, hf⟩
  obtain ⟨r0, r1, z0, z1⟩ := keepA hb
  have BB := Lib.hid (below_then ((Below.refl w.heap.size w).alloc (Nat.le_refl _) (fracO 0 0)) hb (by simp))
  have HI := Lib.hid hi
  have HLT : Hid (w.heap.size < w1.heap.size) := Lib.hid (by have := hb.size; simp at this; omega)
  clear hi hb hf
  by_cases hx : x = 0
  · subst hx
    have hs := HST.out rfl
    have HS := Lib.hid hs
    have HLM := Lib.hid HI.out.len
    have hcap := HI.out.cap
    have hmax := HI.out.max
    have hm8 : (m : Int) ≤ 8 := by have := (stockB_parts hs).2.1; rw [HI.out.len] at this; omega
    have sm := sum_ref w1 HI.out (fits_of_in (stockB_parts hs).2.2.1 (by rw [HI.out.len]; omega) (by omega) (by omega))
    have hnn := sum_nonneg (stockB_parts hs).2.2.1
    have hle := (stockB_parts hs).2.2.2
    have HV1 : Hid (MakeV (gN S m) (sumL S).toNat = V) := Lib.hid (by have := HV.out; rw [if_pos rfl] at this; simpa [HLM.out] using this)
    obtain ⟨D, hD⟩ : ∃ D : Nat, sumL S = D := ⟨(sumL S).toNat, by omega⟩
    rw [hD] at sm HV1
    rw [Int.toNat_natCast] at HV1
    have hgm := gN_le hs m (by rw [HI.out.len]; omega)
    have mk := fun W => MakeR_calls (gN S m) D (by omega) (by omega) W
    rw [HV1.out] at mk
    have MK := Lib.hid mk
    have SM := Lib.hid sm
    have HR0 := Lib.hid r0
    have HR1 := Lib.hid r1
    have HZ0 := Lib.hid z0
    have HZ1 := Lib.hid z1
    clear mk sm hs hnn hle hgm hD r0 r1 z0 z1
    go_wp2
    go_loop [10, 11] (fun u i => ∃ k : Nat, k ≤ m ∧ i = .int .i64 k ∧ u = .int .i64 (gN S k : Nat)) (fun _ i => m - (intOf i).toNat)
    case atStart => exact ⟨0, Nat.zero_le _, rfl, rfl⟩
    case round =>
      obtain ⟨k, hk, rfl, rfl⟩ := hrel
      by_cases hlt : k < m
      · have hv := inB_el (stockB_parts HS.out).2.2.1 (show k < S.length by rw [HLM.out]; exact hlt)
        have hg := gN_le HS.out k (by rw [HLM.out]; omega)
        obtain ⟨v, hv'⟩ : ∃ v : Nat, el S k = v := ⟨(el S k).toNat, by omega⟩
        have HN : Hid (gN S (k + 1) = gN S k + (k + 1) * v) := Lib.hid (by rw [gN, hv', Int.toNat_natCast])
        obtain ⟨ad, rfl, hl, hc⟩ := HI.out.at_ hlt
        rw [hv'] at hc hv
        clear hv'
        generalize gN S k = g at *
        obtain ⟨p, hp⟩ : ∃ p, (k + 1) * v = p := ⟨_, rfl⟩
        have hpi : ((k : Int) + 1) * (v : Int) = (p : Int) := by rw [← hp, Int.natCast_mul]; rfl
        have hpl : p ≤ 8 * 1125899906842624 := by rw [← hp]; exact Nat.mul_le_mul (by omega) (by omega)
        rw [hp] at HN
        have hg8 : g ≤ 72057594037927936 := by omega
        clear hp hg
        go_wp2
        go_round
        case rel => exact ⟨k + 1, by omega, by go_num, by rw [HN.out]; go_num⟩
        case measure => simp [intOf]; try omega
      · obtain rfl : k = m := by omega
        go_wp2_with fail
        refine SM.out.mono ?_
        rintro e w' ⟨rfl, rfl⟩
        go_wp2_with fail
        refine (MK.out _).mono ?_
        rintro e w2 ⟨rfl, b2⟩
        have t0 : w2.cell? ⟨w.heap.size, 0, none⟩ = some (.int .i64 0) := (b2.cell (p := ⟨w.heap.size, 0, none⟩) HLT.out).trans HR0.out
        have t1 : w2.cell? ⟨w.heap.size, 1, none⟩ = some (.int .i64 0) := (b2.cell (p := ⟨w.heap.size, 1, none⟩) HLT.out).trans HR1.out
        have y0 : w2.frozen? ⟨w.heap.size, 0, none⟩ = false := (b2.frozen (p := ⟨w.heap.size, 0, none⟩) HLT.out).trans HZ0.out
        have y1 : w2.frozen? ⟨w.heap.size, 1, none⟩ = false := (b2.frozen (p := ⟨w.heap.size, 1, none⟩) HLT.out).trans HZ1.out
        have BB2 := Lib.hid (below_then BB.out b2 BB.out.size)
        have q0 := setF0 w.heap.size V.1.1 t0
        have q1 := setF1 w.heap.size V.1.1 V.1.2 t1
        clear b2
        go_wp2
        refine bodyPost_ret (v := .tuple #[.agg #[.int .i64 V.1.1, .int .i64 V.1.2], .int .i64 V.2]) (by simp [results, Try.results15, go_sem, q0, q1]) rfl ?_
        exact ⟨rfl, (BB2.out.setCell (by simp) _).setCell (by simp) _⟩
  · have hx' : ((x : Int) != 0) = true := by simp [hx]
    have hv : V = ((0, 0), x) := by have := HV.out; rw [if_neg hx] at this; exact this.symm
    subst hv
    have q0 := setF0 w.heap.size 0 r0
    have q1 := setF1 w.heap.size 0 0 r1
    clear hx
    go_wp2
    refine bodyPost_ret (v := .tuple #[.agg #[.int .i64 0, .int .i64 0], .int .i64 x]) (by simp [results, Try.results15, go_sem, q0, q1]) rfl ?_
    exact ⟨rfl, (BB.out.setCell (by simp) _).setCell (by simp) _⟩
end Go.Proofs.Ytihaabdgligbbaa
