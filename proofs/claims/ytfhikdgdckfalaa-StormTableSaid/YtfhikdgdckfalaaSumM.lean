/- Sums of depths (a missing one counts as 0); the greatest and the least element. -/
import Derived.Test.YtfhikdgdckfalaaMB18
import Derived.Test.YtfhikdgdckfalaaMB01
import Derived.Handy
namespace Go.Proofs.Ytfhikdgdckfalaa
open Go.RowKit
set_option linter.unusedVariables false

def mx0 (zs : List Int) (k : Nat) : Int := if el zs k < 0 then 0 else el zs k
/-- The sum of depths. -/
def sumD (zs : List Int) : Int := sumF (mx0 zs) zs.length
theorem mx0_bd {zs : List Int} {M : Int} (hM : 0 ≤ M) (h : ∀ z ∈ zs, z ≤ M) {k : Nat} (hk : k < zs.length) : 0 ≤ mx0 zs k ∧ mx0 zs k ≤ M := by
  have := h _ (el_mem hk)
  unfold mx0; split <;> omega
theorem sumM_bd {zs : List Int} {M : Int} (hM : 0 ≤ M) (h : ∀ z ∈ zs, z ≤ M) : ∀ {k : Nat}, k ≤ zs.length → 0 ≤ sumF (mx0 zs) k ∧ sumF (mx0 zs) k ≤ k * M
  | 0, _ => by simp [sumF]
  | k + 1, hk => by
    have h1 := sumM_bd hM h (k := k) (by omega)
    have h2 := mx0_bd hM h (k := k) (by omega)
    have e : ((k + 1 : Nat) : Int) * M = k * M + M := by rw [Int.natCast_add, Int.add_mul]; simp
    rw [sumF]; omega

set_option maxHeartbeats 1000000 in
theorem Sum_calls {A : Option Addr} {n c : Nat} {zs : List Int} (w : World) (h : Ints w A n c zs) (hz : ∀ z ∈ zs, z ≤ 4194304) (hn : n ≤ 100000) :
    Calls Try.prog 23 #[.slice A n c] w fun e w' => e = .returned (.int .i64 (sumD zs)) ∧ w = w' := by
  have hcap := h.cap
  have hmax := h.max
  have HL := Lib.hid h.len
  have HS := Lib.hid (fun k (hk : k ≤ zs.length) => sumM_bd (M := 4194304) (by omega) hz hk)
  have HM := Lib.hid (fun k (hk : k < zs.length) => mx0_bd (M := 4194304) (by omega) hz hk)
  have H := Lib.hid h
  clear h hz
  go_enter Try.func23, Try.ntmps23
  go_wp2
  go_loop [3, 4] (fun s i => ∃ (k : Nat) (S : Int), k ≤ n ∧ i = .int .i64 k ∧ s = .int .i64 S ∧ Hid (S = sumF (mx0 zs) k) ∧ 0 ≤ S ∧ S ≤ 419430400000) (fun _ i => n - (intOf i).toNat)
  case atStart => exact ⟨0, 0, Nat.zero_le _, rfl, rfl, rfl, by omega, by omega⟩
  case round =>
    obtain ⟨k, S, hk, rfl, rfl, hS, s0, s1⟩ := hrel
    by_cases hlt : k < n
    · obtain ⟨ad, rfl, hl, hc⟩ := H.out.at_ hlt
      have hb := HS.out (k + 1) (by rw [HL.out]; omega)
      have hm := HM.out k (by rw [HL.out]; omega)
      rw [sumF, ← hS.out] at hb
      have NS : Hid (S + mx0 zs k = sumF (mx0 zs) (k + 1)) := Lib.hid (by rw [sumF, hS.out])
      rw [show mx0 zs k = if el zs k < 0 then 0 else el zs k from rfl] at hb NS hm
      have hkb : ((k + 1 : Nat) : Int) * 4194304 ≤ 419430400000 := by omega
      generalize el zs k = z at *
      by_cases hz : z < 0
      · rw [if_pos hz] at hb NS hm
        go_wp2
        go_round
        case rel => exact ⟨k + 1, S, by omega, by go_num, by first | rfl | (congr 1; omega), Lib.hid (by rw [← NS.out]; omega), by omega, by omega⟩
        case measure => simp [intOf]; try omega
      · rw [if_neg hz] at hb NS hm
        have e1 : max 0 z = z := by omega
        go_wp2
        go_round
        case rel => exact ⟨k + 1, S + z, by omega, by go_num, by first | rfl | (congr 1; omega), NS, by omega, by omega⟩
        case measure => simp [intOf]; try omega
    · obtain rfl : k = n := by omega
      have HV : Hid (S = sumD zs) := Lib.hid (by unfold sumD; rw [hS.out, HL.out])
      go_wp2
      go_ret
      exact ⟨ret_i HV.out, rfl⟩

/-- The greatest of F 0, .., F n. -/
def maxV (F : Nat → Int) : Nat → Int
  | 0 => F 0
  | n + 1 => if maxV F n < F (n + 1) then F (n + 1) else maxV F n
def minV (F : Nat → Int) : Nat → Int
  | 0 => F 0
  | n + 1 => if F (n + 1) < minV F n then F (n + 1) else minV F n
theorem maxV_ge (F : Nat → Int) : ∀ {n k : Nat}, k ≤ n → F k ≤ maxV F n
  | 0, k, h => by obtain rfl : k = 0 := by omega
                  exact Int.le_refl _
  | n + 1, k, h => by
    rw [maxV]
    by_cases e : k = n + 1
    · subst e; split <;> omega
    · have := maxV_ge F (n := n) (k := k) (by omega); split <;> omega
theorem maxV_at (F : Nat → Int) : ∀ n : Nat, ∃ k, k ≤ n ∧ maxV F n = F k
  | 0 => ⟨0, Nat.le_refl _, rfl⟩
  | n + 1 => by
    obtain ⟨k, h1, h2⟩ := maxV_at F n
    rw [maxV]
    split
    · exact ⟨n + 1, Nat.le_refl _, rfl⟩
    · exact ⟨k, by omega, h2⟩
theorem minV_le (F : Nat → Int) : ∀ {n k : Nat}, k ≤ n → minV F n ≤ F k
  | 0, k, h => by obtain rfl : k = 0 := by omega
                  exact Int.le_refl _
  | n + 1, k, h => by
    rw [minV]
    by_cases e : k = n + 1
    · subst e; split <;> omega
    · have := minV_le F (n := n) (k := k) (by omega); split <;> omega
theorem minV_at (F : Nat → Int) : ∀ n : Nat, ∃ k, k ≤ n ∧ minV F n = F k
  | 0 => ⟨0, Nat.le_refl _, rfl⟩
  | n + 1 => by
    obtain ⟨k, h1, h2⟩ := minV_at F n
    rw [minV]
    split
    · exact ⟨n + 1, Nat.le_refl _, rfl⟩
    · exact ⟨k, by omega, h2⟩
def maxL (zs : List Int) : Int := maxV (el zs) (zs.length - 1)
def minL (zs : List Int) : Int := minV (el zs) (zs.length - 1)

set_option maxHeartbeats 1000000 in
theorem Max_calls {A : Option Addr} {n c : Nat} {zs : List Int} (w : World) (h : Ints w A n c zs) (hn : 0 < n) :
    Calls Try.prog 24 #[.slice A n c] w fun e w' => e = .returned (.int .i64 (maxL zs)) ∧ w = w' := by
  have hcap := h.cap
  have hmax := h.max
  have hfew := h.few
  have HL := Lib.hid h.len
  have H := Lib.hid h
  obtain ⟨ad, rfl, hl, hc0⟩ := h.at_ hn
  have hcz : w.cell? ad = some (.int .i64 (el zs 0)) := hc0
  clear h hc0
  obtain ⟨z0, hz0⟩ : ∃ z0, el zs 0 = z0 := ⟨_, rfl⟩
  rw [hz0] at hcz
  have HZ := Lib.hid hz0
  clear hz0
  go_enter Try.func24, Try.ntmps24
  go_wp2
  go_loop [3, 4] (fun s i => ∃ (k m : Nat) (S : Int), k ≤ n ∧ i = .int .i64 k ∧ s = .int .i64 S ∧ Hid (k = m + 1) ∧ Hid (S = maxV (el zs) m)) (fun _ i => n - (intOf i).toNat)
  case atStart => exact ⟨1, 0, z0, by omega, rfl, rfl, rfl, HZ.out.symm⟩
  case round =>
    obtain ⟨k, m, S, hk, rfl, rfl, hm, hS⟩ := hrel
    by_cases hlt : k < n
    · obtain ⟨ad', e', hl, hc⟩ := H.out.at_ hlt
      injection e' with e'
      subst e'
      have NS : Hid ((if S < el zs k then el zs k else S) = maxV (el zs) (m + 1)) := Lib.hid (by rw [maxV, hS.out, hm.out])
      generalize el zs k = z at *
      by_cases hz : S < z
      · rw [if_pos hz] at NS
        have e1 : max S z = z := by omega
        go_wp2
        go_round
        case rel => exact ⟨k + 1, m + 1, z, by omega, by go_num, by first | rfl | (congr 1; omega), Lib.hid (by rw [hm.out]), NS⟩
        case measure => simp [intOf]; try omega
      · rw [if_neg hz] at NS
        have e1 : max S z = S := by omega
        go_wp2
        go_round
        case rel => exact ⟨k + 1, m + 1, S, by omega, by go_num, by first | rfl | (congr 1; omega), Lib.hid (by rw [hm.out]), NS⟩
        case measure => simp [intOf]; try omega
    · obtain rfl : k = n := by omega
      have HV : Hid (S = maxL zs) := Lib.hid (by unfold maxL; rw [hS.out, HL.out, hm.out]; rfl)
      go_wp2
      go_ret
      exact ⟨ret_i HV.out, rfl⟩
set_option maxHeartbeats 1000000 in
theorem Min_calls {A : Option Addr} {n c : Nat} {zs : List Int} (w : World) (h : Ints w A n c zs) (hn : 0 < n) :
    Calls Try.prog 25 #[.slice A n c] w fun e w' => e = .returned (.int .i64 (minL zs)) ∧ w = w' := by
  have hcap := h.cap
  have hmax := h.max
  have hfew := h.few
  have HL := Lib.hid h.len
  have H := Lib.hid h
  obtain ⟨ad, rfl, hl, hc0⟩ := h.at_ hn
  have hcz : w.cell? ad = some (.int .i64 (el zs 0)) := hc0
  clear h hc0
  obtain ⟨z0, hz0⟩ : ∃ z0, el zs 0 = z0 := ⟨_, rfl⟩
  rw [hz0] at hcz
  have HZ := Lib.hid hz0
  clear hz0
  go_enter Try.func25, Try.ntmps25
  go_wp2
  go_loop [3, 4] (fun s i => ∃ (k m : Nat) (S : Int), k ≤ n ∧ i = .int .i64 k ∧ s = .int .i64 S ∧ Hid (k = m + 1) ∧ Hid (S = minV (el zs) m)) (fun _ i => n - (intOf i).toNat)
  case atStart => exact ⟨1, 0, z0, by omega, rfl, rfl, rfl, HZ.out.symm⟩
  case round =>
    obtain ⟨k, m, S, hk, rfl, rfl, hm, hS⟩ := hrel
    by_cases hlt : k < n
    · obtain ⟨ad', e', hl, hc⟩ := H.out.at_ hlt
      injection e' with e'
      subst e'
      have NS : Hid ((if el zs k < S then el zs k else S) = minV (el zs) (m + 1)) := Lib.hid (by rw [minV, hS.out, hm.out])
      generalize el zs k = z at *
      by_cases hz : z < S
      · rw [if_pos hz] at NS
        have e1 : min S z = z := by omega
        go_wp2
        go_round
        case rel => exact ⟨k + 1, m + 1, z, by omega, by go_num, by first | rfl | (congr 1; omega), Lib.hid (by rw [hm.out]), NS⟩
        case measure => simp [intOf]; try omega
      · rw [if_neg hz] at NS
        have e1 : min S z = S := by omega
        go_wp2
        go_round
        case rel => exact ⟨k + 1, m + 1, S, by omega, by go_num, by first | rfl | (congr 1; omega), Lib.hid (by rw [hm.out]), NS⟩
        case measure => simp [intOf]; try omega
    · obtain rfl : k = n := by omega
      have HV : Hid (S = minL zs) := Lib.hid (by unfold minL; rw [hS.out, HL.out, hm.out]; rfl)
      go_wp2
      go_ret
      exact ⟨ret_i HV.out, rfl⟩
end Go.Proofs.Ytfhikdgdckfalaa
