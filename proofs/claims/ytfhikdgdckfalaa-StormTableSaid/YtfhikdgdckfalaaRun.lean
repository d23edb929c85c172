/- The sum of a run of depths. -/
import Derived.Test.YtfhikdgdckfalaaSumM
namespace Go.Proofs.Ytfhikdgdckfalaa
open Go.RowKit
set_option linter.unusedVariables false

def runV (zs : List Int) (i k : Nat) : Int := sumF (mx0 zs) (i + k) - sumF (mx0 zs) i
theorem el_drop_take {zs : List Int} {i k j : Nat} (h : j < k) : el ((zs.drop i).take k) j = el zs (i + j) := by
  unfold el
  rw [List.getD_eq_getElem?_getD, List.getD_eq_getElem?_getD, List.getElem?_take, if_pos h, List.getElem?_drop]
theorem sumF_from (F : Nat → Int) (i : Nat) : ∀ k, sumF (fun j => F (i + j)) k = sumF F (i + k) - sumF F i
  | 0 => by simp [sumF]
  | k + 1 => by rw [sumF, sumF_from F i k, show i + (k + 1) = (i + k) + 1 by omega, sumF]; omega
theorem sumD_run {zs : List Int} {i k : Nat} (h : i + k ≤ zs.length) : sumD ((zs.drop i).take k) = runV zs i k := by
  unfold sumD runV
  have hl : ((zs.drop i).take k).length = k := by rw [List.length_take, List.length_drop]; omega
  rw [hl, ← sumF_from]
  exact sumF_congr fun j hj => by unfold mx0; rw [el_drop_take hj]

set_option maxHeartbeats 1000000 in
theorem Run_calls {A : Option Addr} {n c : Nat} {zs : List Int} (i k : Nat) (w : World) (h : Ints w A n c zs) (hz : ∀ z ∈ zs, z ≤ 4194304) (hn : n ≤ 10000) (hk : 0 < k) (hik : i + k ≤ n) :
    Calls Try.prog 33 #[.slice A n c, .int .i64 i, .int .i64 k] w fun e w' => e = .returned (.int .i64 (runV zs i k)) ∧ w = w' := by
  have hcap := h.cap
  have hmax := h.max
  have hI := (h.drop (show i ≤ n by omega)).take (k := k) (by omega)
  rw [if_neg (by omega)] at hI
  obtain ⟨ad, rfl, hl, hc⟩ := h.at_ (k := i) (by omega)
  have sc := Sum_calls w hI (fun z hz' => hz z (List.mem_of_mem_drop (List.mem_of_mem_take hz'))) (by omega)
  rw [sumD_run (by rw [h.len]; exact hik)] at sc
  have SC := Lib.hid sc
  obtain ⟨m, hm⟩ : ∃ m, i + k = m := ⟨_, rfl⟩
  have em : (i : Int) + (k : Int) = (m : Int) := by omega
  have z0 : (0 : Int) ≤ (i : Int) := by omega
  have z1 : (i : Int) ≤ (m : Int) := by omega
  have z2 : (m : Int) ≤ (n : Int) := by omega
  have z3 : (m : Int) ≤ (c : Int) := by omega
  have z4 : m ≤ c := by omega
  have z5 : i ≤ c := by omega
  have z6 : ¬ c = i := by omega
  have z7 : i ≤ m := by omega
  have e2 : m - i = k := by omega
  clear h hI sc hc hl
  generalize runV zs i k = V at *
  go_enter Try.func33, Try.ntmps33
  go_wp2_with fail
  go_wp2_with fail
  refine (SC.out).mono ?_
  rintro e w1 ⟨rfl, rfl⟩
  go_wp2
  go_ret
  exact ⟨rfl, rfl⟩
end Go.Proofs.Ytfhikdgdckfalaa
