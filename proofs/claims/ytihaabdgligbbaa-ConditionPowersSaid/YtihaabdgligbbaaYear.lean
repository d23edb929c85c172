/- A stock after a year: the program's walk. -/
import Derived.Test.YtihaabdgligbbaaYearLaw
import Derived.Test.YtihaabdgligbbaaShare
import Derived.Test.YtihaabdgligbbaaShareRef
import Derived.BigRegion
import Derived.BigQuiet
import Derived.IntWalk
namespace Go.Proofs.Ytihaabdgligbbaa
open Go.RowKit
set_option linter.unusedVariables false

set_option maxHeartbeats 1000000 in
set_option maxRecDepth 100000 in
theorem year_calls {A A' : Option Addr} {n c n' c' : Nat} {ts : List (List Int)} {l : List Int} (w : World) (h : Tab w A n c ts) (h' : Ints w A' n' c' l) (ok : YearOk ts l) :
    Calls Try.prog 45 #[.slice A n c, .slice A' n' c'] w (RetL (yearL ts l) 0 w) := by
  have HL := Lib.hid h.len
  have HL' := Lib.hid h'.len
  have hcap := h.cap
  have hmax := h.max
  have hcap' := h'.cap
  have hmax' := h'.max
  have hnn : n = n' := by rw [← h.len, ← h'.len]; exact ok.len
  have hn8 : (n' : Int) ≤ 8 := by have := (stockB_parts ok.s).2.1; rw [h'.len] at this; omega
  have OK := Lib.hid ok
  have H := Lib.hid h
  have H' := Lib.hid h'
  have HNN := Lib.hid hnn
  have hmk := make_ints n' (by omega)
  have HR := Lib.hid (Row.made w n')
  clear ok h h' hnn
  go_enter Try.func45, Try.ntmps45
  go_wp2
  clear hmk
  go_loopw [18] (fun i wr => ∃ k : Nat, k ≤ n' ∧ i = .int .i64 k ∧ Row wr w.heap.size n' (yF ts l k) ∧ Below w.heap.size w wr) (fun i _ => n' - (intOf i).toNat)
  case atStart => exact ⟨0, Nat.zero_le _, rfl, HR.out, (Below.refl _ _).alloc (Nat.le_refl _) _⟩
  case round =>
    obtain ⟨k, hk, rfl, hrow, hbe⟩ := hrel
    generalize wr = wo at *
    have HROW := Lib.hid hrow
    have HBE := Lib.hid hbe
    clear hrow
    by_cases hlt : k < n'
    · have hkl : k < l.length := by rw [HL'.out]; exact hlt
      obtain ⟨ad', rfl, hl', hc'⟩ := (H'.out.below hbe).at_ hlt
      obtain ⟨ad, B0, n0, c0, rfl, hl, hc, hi⟩ := (H.out.below hbe).at_ (show k < n by have := HNN.out; omega)
      have hkn : (k : Int) < n := by have := HNN.out; omega
      have hrl : (tl ts k).length = n' := by rw [OK.out.rowLen hkl, HL'.out]
      have sh := Share_in (el l k) wo hi (OK.out.share hkl)
      have SH := Lib.hid sh
      have HRL := Lib.hid hrl
      have HV : Hid (∀ j, j < n' → el (shL (el l k) (tl ts k)) j = shF (el l k) (tl ts k) j) := Lib.hid fun j hj => el_fl _ (by rw [HRL.out]; exact hj)
      have HVL : Hid ((shL (el l k) (tl ts k)).length = n') := Lib.hid (by rw [shL_length, HRL.out])
      have HB1 : Hid (∀ j, j < n' → (0 ≤ yF ts l k j ∧ yF ts l k j ≤ 1125899906842624) ∧ (0 ≤ shF (el l k) (tl ts k) j ∧ shF (el l k) (tl ts k) j ≤ 1125899906842624)) := Lib.hid fun j hj => by
        have h1 := OK.out.yF_le (show j < l.length by rw [HL'.out]; exact hj) (show k ≤ l.length by omega)
        have h2 := OK.out.sh hkl (show j < l.length by rw [HL'.out]; exact hj)
        have h3 := OK.out.el hkl
        omega
      have hv := OK.out.el hkl
      obtain ⟨v0, v1⟩ := hv
      clear sh hi hrl hkl
      generalize shL (el l k) (tl ts k) = P at *
      have HST := Lib.hid (fun j q => yM_step ts l k j q)
      generalize el l k = v at *
      generalize tl ts k = row at *
      go_wp2_with fail
      refine SH.out.mono ?_
      rintro e w3 ⟨B, m, d, rfl, hi, hb, hfr⟩
      obtain rfl : m = n' := by have := hi.len; rw [HVL.out] at this; omega
      have hdcap := hi.cap
      have hdmax := hi.max
      have HI := Lib.hid hi
      have HFR : Hid (∀ ad, B = some ad → ad.block ≠ w.heap.size) := Lib.hid fun ad e => by have := hfr ad e; have := HROW.out.lt; omega
      have HRW := Lib.hid ((HROW.out.below hb HROW.out.lt).congr (G := yM ts l k 0) (fun q _ => (yM_zero ts l k q).symm))
      have HBW := Lib.hid (HBE.out.trans (hb.mono HBE.out.size))
      clear hi hb hfr hbe
      go_wp2
      go_loopw [37] (fun x wr => ∃ j : Nat, j ≤ m ∧ x = .int .i64 j ∧ Row wr w.heap.size m (yM ts l k j) ∧ Ints wr B m d P ∧ Below w.heap.size w wr) (fun x _ => m - (intOf x).toNat)
      case atStart => exact ⟨0, Nat.zero_le _, rfl, HRW.out, HI.out, HBW.out⟩
      case round =>
        obtain ⟨j, hj, rfl, hrow2, hi2, hbe2⟩ := hrel
        have HBE2 := Lib.hid hbe2
        by_cases hlt2 : j < m
        · obtain ⟨⟨m0, m1⟩, s0, s1⟩ := HB1.out j hlt2
          have co := hrow2.cell j hlt2
          rw [yM_self] at co
          have fo := hrow2.free j
          have HF := Lib.hid ((hrow2.set j (yF ts l k j + shF v row j)).congr (G := yM ts l k (j + 1)) (fun q _ => HST.out j q))
          have HI3 := Lib.hid (hi2.far (p := ⟨w.heap.size, j, none⟩) HFR.out (.int .i64 (yF ts l k j + shF v row j)))
          obtain ⟨ad', rfl, hl', hc'⟩ := hi2.at_ hlt2
          rw [HV.out j hlt2] at hc'
          clear hrow2 hi2 hbe2
          generalize yF ts l k j = a at *
          generalize shF v row j = x at *
          go_wp2
          go_roundw
          case rel => exact ⟨j + 1, by omega, by go_num, HF.out, HI3.out, HBE2.out.setCell (by simp) _⟩
          case measure => simp [intOf]; try omega
        · obtain rfl : j = m := by omega
          have HF := Lib.hid (hrow2.congr (G := yF ts l (k + 1)) (fun q hq => yM_all ts l k j q hq))
          clear hrow2 hi2 hbe2
          go_wp2
          go_roundw
          case rel => exact ⟨k + 1, by omega, by go_num, HF.out, HBE2.out⟩
          case measure => simp [intOf]; try omega
    · obtain rfl : k = n' := by omega
      have hI := HROW.out.ints (Nat.le_refl k) (by omega) (by omega) (fun q hq => by have := OK.out.yF_le (show q < l.length by rw [HL'.out]; exact hq) (show k ≤ l.length by rw [HL'.out]; omega); omega)
      rw [show fl k (yF ts l k) = yearL ts l from by unfold yearL; rw [HL'.out]] at hI
      have HII := Lib.hid hI
      clear hI hbe
      go_wp2
      go_returns
      exact ⟨_, _, _, rfl, HII.out, HBE.out, fun ad e => by injection e with e; subst e; exact Nat.le_refl _⟩
end Go.Proofs.Ytihaabdgligbbaa
