/- Encode of the reference. -/
import Derived.Test.YtchnfahgmceohaaMReads10
import Derived.Test.YtchnfahgmceohaaMReads11
import Derived.Test.YtchnfahgmceohaaMReads01
import Derived.Laws.BytesArg
import Derived.DataReads
import Derived.Handy

namespace Go.Proofs.Ytchnfahgmceohaa
open Go.RowKit
set_option linter.unusedVariables false

set_option maxRecDepth 100000 in
set_option maxHeartbeats 2000000 in
theorem Encode_inR {A : Option Addr} {n c : Nat} {ss : List SerD} (w : World) (h : Sers w A n c ss) (hn : (n : Int) ≤ 8) (hd : ∀ s ∈ ss, s.ds.length ≤ 200) (hv : allV ss = true) :
    Calls Try.prog 12 #[.slice A n c] w (RetZ (encL ss) 0 w) := by
  have hcap := h.cap
  have hmax := h.max
  have H := Lib.hid h
  have HL := Lib.hid h.len
  have HD := Lib.hid hd
  have HV := Lib.hid (show ∀ k, k < n → validD (sl ss k) = true from fun k hk => by
    unfold allV at hv; rw [List.all_eq_true] at hv; exact hv _ (sl_mem (by rw [h.len]; exact hk)))
  clear h hd hv
  go_enter Try.func12, Try.ntmps12
  go_wp2
  go_loopw [4] (fun i wr => ∃ k : Nat, k ≤ n ∧ i = .int .i64 k ∧ Below w.heap.size w wr) (fun i _ => n - (intOf i).toNat)
  case atStart => exact ⟨0, Nat.zero_le _, rfl, Below.refl _ _⟩
  case round =>
    obtain ⟨k, hk, rfl, hbe⟩ := hrel
    generalize wr = wo at *
    have HBE := Lib.hid hbe
    by_cases hlt : k < n
    · obtain ⟨ad, rfl, hl, ⟨A1, n1, c1, q0, q1, q2, qi⟩⟩ := (H.out.below hbe).at_ hlt
      have gv := rValid_calls (sl ss k).f (sl ss k).st wo qi
      rw [show validS (sl ss k).f (sl ss k).st (sl ss k).ds = true from HV.out k hlt] at gv
      have GV := Lib.hid gv
      clear gv qi hbe
      generalize (sl ss k).f = f at *
      generalize (sl ss k).st = st at *
      go_wp2_with fail
      refine (GV.out).mono ?_
      rintro e w1 ⟨rfl, b1⟩
      have HB1 := Lib.hid (HBE.out.trans (b1.mono HBE.out.size))
      clear b1
      go_wp2
      go_roundw
      case rel => exact ⟨k + 1, by omega, by go_num, HB1.out⟩
      case measure => simp [intOf]; try omega
    · obtain rfl : k = n := by omega
      have o1 : OwnB (wo.alloc (.cells #[.int .u8 82, .int .u8 65, .int .u8 1] 5)) w.heap.size (.slice (some ⟨wo.heap.size, 0, none⟩) 3 3) [82, 65, 1] := (OwnB.lit3 wo).mono hbe.size
      have O1 := Lib.hid o1
      have HB1 := Lib.hid (HBE.out.alloc HBE.out.size (.cells #[.int .u8 82, .int .u8 65, .int .u8 1] 5))
      clear hbe o1
      go_wp2
      go_loopw [5, 6] (fun t i wr => ∃ j : Nat, j ≤ k ∧ i = .int .i64 j ∧ OwnB wr w.heap.size t (encTo ss j) ∧ Below w.heap.size w wr) (fun _ i _ => k - (intOf i).toNat)
      case atStart => exact ⟨0, Nat.zero_le _, rfl, O1.out, HB1.out⟩
      case round =>
        obtain ⟨j, hj, rfl, ho, hbe⟩ := hrel
        generalize wr = wo2 at *
        have HBE2 := Lib.hid hbe
        have HO2 := Lib.hid ho
        by_cases hlt : j < k
        · obtain ⟨ad, rfl, hl, ⟨A1, n1, c1, q0, q1, q2, qi⟩⟩ := (H.out.below hbe).at_ hlt
          have hjl : j < ss.length := by rw [HL.out]; exact hlt
          have h1 := encTo_len HD.out j (by omega)
          have rc := add_ref (sl ss j).f (sl ss j).st w.heap.size u5 (encTo ss j) wo2 HO2.out hbe.size (by omega) qi (HV.out j hlt)
          have HE : Hid (encTo ss (j + 1) = encTo ss j ++ recL (sl ss j).f (sl ss j).st (sl ss j).ds) := Lib.hid (encTo_succ hjl)
          rw [← HE.out] at rc
          have RC := Lib.hid rc
          clear rc qi hbe ho HE
          generalize (sl ss j).f = f at *
          generalize (sl ss j).st = st at *
          go_wp2_with fail
          refine (RC.out).mono ?_
          rintro e w3 ⟨v3, rfl, o3, g3⟩
          have O3 := Lib.hid o3
          have HB3 := Lib.hid (HBE2.out.trans (g3.below HO2.out HBE2.out.size))
          clear o3 g3
          go_wp2
          go_roundw
          case rel => exact ⟨j + 1, by omega, by go_num, O3.out, HB3.out⟩
          case measure => simp [intOf]; try omega
        · obtain rfl : j = k := by omega
          have h4 := encTo_len HD.out j (by rw [HL.out]; exact Nat.le_refl _)
          have O5 : Hid (OwnB wo2 w.heap.size u5 (encL ss)) := Lib.hid (by have := HO2.out; rw [← HL.out, encTo_all] at this; exact this)
          obtain ⟨A4, n4, c4, hu, y4, -⟩ := O5.out.ints
          have hn4 : (n4 : Int) ≤ 1048576 := by rw [← y4.len, ← encTo_all, HL.out]; omega
          subst hu
          clear hbe ho y4 h4 HO2
          go_wp2
          go_returns
          exact ⟨_, rfl, O5.out, HBE2.out⟩

set_option maxRecDepth 100000 in
set_option maxHeartbeats 2000000 in
theorem Encode_badR {A : Option Addr} {n c : Nat} {ss : List SerD} (w : World) (h : Sers w A n c ss) (hn : (n : Int) ≤ 1000) (hv : allV ss = false) :
    Calls Try.prog 12 #[.slice A n c] w (RetZ [] 1 w) := by
  have hcap := h.cap
  have hmax := h.max
  have H := Lib.hid h
  have HL := Lib.hid h.len
  have HV := Lib.hid hv
  clear h hv
  go_enter Try.func12, Try.ntmps12
  go_wp2
  go_loopw [4] (fun i wr => ∃ k : Nat, k ≤ n ∧ i = .int .i64 k ∧ (∀ j, j < k → validD (sl ss j) = true) ∧ Below w.heap.size w wr) (fun i _ => n - (intOf i).toNat)
  case atStart => exact ⟨0, Nat.zero_le _, rfl, fun j hj => absurd hj (by omega), Below.refl _ _⟩
  case round =>
    obtain ⟨k, hk, rfl, hall, hbe⟩ := hrel
    generalize wr = wo at *
    have HBE := Lib.hid hbe
    have HALL := Lib.hid hall
    clear hall
    by_cases hlt : k < n
    · obtain ⟨ad, rfl, hl, ⟨A1, n1, c1, q0, q1, q2, qi⟩⟩ := (H.out.below hbe).at_ hlt
      have gv := rValid_calls (sl ss k).f (sl ss k).st wo qi
      have HS : Hid (validD (sl ss k) = true → ∀ j, j < k + 1 → validD (sl ss j) = true) := Lib.hid fun h j hj => by
        by_cases hjk : j = k
        · subst hjk; exact h
        · exact HALL.out j (by omega)
      rw [show validS (sl ss k).f (sl ss k).st (sl ss k).ds = validD (sl ss k) from rfl] at gv
      generalize validD (sl ss k) = q at *
      have GV := Lib.hid gv
      clear gv qi hbe
      generalize (sl ss k).f = f at *
      generalize (sl ss k).st = st at *
      cases q
      · go_wp2_with fail
        refine (GV.out).mono ?_
        rintro e w1 ⟨rfl, b1⟩
        have HB1 := Lib.hid (HBE.out.trans (b1.mono HBE.out.size))
        clear b1
        go_wp2
        go_returns
        exact RetZ.none_ HB1.out
      · have HX := Lib.hid (HS.out rfl)
        go_wp2_with fail
        refine (GV.out).mono ?_
        rintro e w1 ⟨rfl, b1⟩
        have HB1 := Lib.hid (HBE.out.trans (b1.mono HBE.out.size))
        clear b1
        go_wp2
        go_roundw
        case rel => exact ⟨k + 1, by omega, by go_num, HX.out, HB1.out⟩
        case measure => simp [intOf]; try omega
    · obtain rfl : k = n := by omega
      exfalso
      have : allV ss = true := by
        unfold allV
        rw [List.all_eq_true]
        intro s hs
        obtain ⟨j, hj, rfl⟩ := sl_of_mem hs
        exact HALL.out j (by rw [← HL.out]; exact hj)
      rw [HV.out] at this
      cases this

theorem Encode_fullR {A : Option Addr} {n c : Nat} (w : World) (hcap : n ≤ c) (hmax : c ≤ 9223372036854775807) (hn : 1000 < (n : Int)) :
    Calls Try.prog 12 #[.slice A n c] w (RetZ [] 4 w) := by
  go_enter Try.func12, Try.ntmps12
  go_wp2
  go_returns
  exact RetZ.none_ (Below.refl _ _)
theorem Encode_ref {A : Option Addr} {n c : Nat} {ss : List SerD} (w : World) (h : Sers w A n c ss) (hf : FewR ss) :
    Calls Try.prog 12 #[.slice A n c] w (RetZ (EncV ss).1 (EncV ss).2 w) := by
  unfold EncV
  by_cases h1 : 1000 < ss.length
  · rw [if_pos h1]
    exact Encode_fullR w h.cap h.max (by rw [h.len] at h1; omega)
  · rw [if_neg h1]
    have h8 : n ≤ 8 := by have := hf.1; rw [h.len] at this h1; omega
    cases hv : allV ss
    · rw [if_neg (by decide)]
      exact Encode_badR w h (by omega) hv
    · rw [if_pos rfl]
      exact Encode_inR w h (by omega) (few_valid hf hv) hv
end Go.Proofs.Ytchnfahgmceohaa

/- bytes.Equal at slices that read the same. -/
namespace Go.Proofs.Ytchnfahgmceohaa
open Go.RowKit
set_option linter.unusedVariables false

theorem spot_none {w : World} {a : Addr} {v : Value} (h : w.cell? (a.add 0) = some v) : a = ⟨a.block, a.off, none⟩ := by
  have h1 : a.add 0 = a := by unfold Addr.add; rw [if_pos rfl]
  rw [h1] at h
  have := World.cell?_spot h
  obtain ⟨b, o, s⟩ := a
  simp only at this
  subst this
  rfl
theorem add_plain0 (b o i : Nat) : (⟨b, o, none⟩ : Addr).add i = ⟨b, o + i, none⟩ := Addr.add_lit b o i
theorem Byts.convert {w : World} {A : Option Addr} {n c : Nat} {bs : List Int} (h : Byts w A n c bs) (src e dst : TypeId) (hs : Try.prog.underlying src = some (.slice e)) (he : Try.prog.underlying e = some (.int .u8)) (hd : Try.prog.underlying dst = some .string) :
    (Go.convert src dst (.slice A n c)).run Try.prog w = .ok (.string (strOfNums bs)) w := by
  by_cases hn : 0 < n
  · obtain ⟨ad, rfl, hl, hc⟩ := h.mem hn
    have hsp := spot_none (hc 0 hn)
    rw [hsp]
    refine run_convert_bytes_arg w src e hs he ad.block ad.off n c bs h.len (fun i hi => ?_) dst hd
    have := hc i hi
    rw [hsp] at this
    rwa [add_plain0] at this
  · obtain rfl : n = 0 := by omega
    have hb : bs = [] := List.eq_nil_of_length_eq_zero h.len
    subst hb
    rw [run_convert_bytes_string w src dst e _ 0 c hs he hd]
    cases A <;> simp [Conv.bytesToString, loadCells]
    all_goals rfl

theorem equalB_same {A A' : Option Addr} {n c n' c' : Nat} {bs : List Int} (w : World) (h : Byts w A n c bs) (h' : Byts w A' n' c' bs) :
    Calls Try.prog 13 #[.slice A n c, .slice A' n' c'] w fun e w' => e = .returned (.bool true) ∧ w = w' := by
  have k1 := h.convert 25 5 9 Try.underlying25 Try.underlying5 Try.underlying9
  have k2 := h'.convert 25 5 9 Try.underlying25 Try.underlying5 Try.underlying9
  generalize strOfNums bs = s at *
  clear h h'
  go_enter Try.func13, Try.ntmps13
  go_wp2
  go_ret
  exact ⟨rfl, rfl⟩
end Go.Proofs.Ytchnfahgmceohaa
