/- Packed of the reference. -/
import Derived.Test.YtchnfahgmceohaaPack
namespace Go.Proofs.Ytchnfahgmceohaa
open Go.RowKit
set_option linter.unusedVariables false

theorem Ints.belowB {w w' : World} {A : Option Addr} {n c B : Nat} {zs : List Int} (h : Ints w A n c zs) (hb : Below B w w') (hA : 0 < n → ∀ ad, A = some ad → ad.block < B) : Ints w' A n c zs :=
  h.keep hb.size fun ad j e hj => hb.cell (p := ad.add j) (by rw [block_of_add]; exact hA (by omega) ad e)

set_option maxRecDepth 100000 in
set_option maxHeartbeats 2000000 in
theorem Packed_ref {A : Option Addr} {n c : Nat} {l : List Int} (B : Nat) (v : Value) (bs : List Int) (w : World) (ho : OwnB w B v bs) (hB : B ≤ w.heap.size) (hbl : bs.length ≤ 100000) (h : Ints w A n c l) (hA : 0 < n → ∀ ad, A = some ad → ad.block < B) (hp : inP l) (hn : (n : Int) ≤ 10000) :
    Calls Try.prog 74 #[v, .slice A n c] w (RetO B (bs ++ packL l) w) := by
  have HL := Lib.hid h.len
  have hcap := h.cap
  have hmax := h.max
  have H := Lib.hid h
  have HA := Lib.hid hA
  have HP := Lib.hid hp
  have HO := Lib.hid ho
  clear h hp ho hA
  go_enter Try.func74, Try.ntmps74
  go_wp2
  go_loopw [0, 5, 6, 7] (fun t la ru i wr => ∃ (k run : Nat) (last : Int) (out : List Int), k ≤ n ∧ i = .int .i64 k ∧ la = .int .i64 last ∧ ru = .int .i64 run ∧ -1099511627776 ≤ last ∧ last ≤ 1099511627776 ∧ run ≤ k ∧ out.length ≤ 100000 + 20 * k ∧ OwnB wr B t out ∧ Hid (out ++ packGo last run (l.drop k) = bs ++ packL l) ∧ Below B w wr) (fun _ _ _ i _ => n - (intOf i).toNat)
  case atStart => exact ⟨0, 0, 0, bs, Nat.zero_le _, rfl, rfl, rfl, by omega, by omega, Nat.le_refl _, by omega, HO.out, Lib.hid rfl, Below.refl _ _⟩
  case round =>
    obtain ⟨k, run, last, out, hk, rfl, rfl, rfl, hl0, hl1, hrk, hok, hown, he, hbe⟩ := hrel
    generalize wr = wo at *
    have HOW := Lib.hid hown
    have HBE := Lib.hid hbe
    have hsz : B ≤ wo.heap.size := Nat.le_trans hB hbe.size
    clear hown
    by_cases hlt : k < n
    · obtain ⟨ad, hAe, hl, hc⟩ := (H.out.belowB hbe HA.out).at_ hlt
      subst hAe
      have hz := inP_el HP.out k
      have hkl : k < l.length := by rw [HL.out]; exact hlt
      have es := fun (e : el l k = last) => (pack_same (l := l) (run := run) hkl)
      have eo := fun (e : ¬ el l k = last) => (pack_other (l := l) (last := last) (run := run) hkl e)
      obtain ⟨hz0, hz1⟩ := hz
      clear hbe
      by_cases heq : el l k = last
      · have HE : Hid (out ++ packGo last (run + 1) (l.drop (k + 1)) = bs ++ packL l) := Lib.hid (by rw [← he.out]; congr 1; have := es heq; rw [heq] at this; exact this.symm)
        have HZ := Lib.hid heq
        have hd : (((el l k : Int) - last) == 0) = true := by simp; omega
        clear es eo he heq
        go_wp2
        go_roundw
        case rel => exact ⟨k + 1, run + 1, last, out, by omega, by go_num, by rw [HZ.out], by go_num, hl0, hl1, by omega, by omega, HOW.out, HE, HBE.out⟩
        case measure => simp [intOf]; try omega
      · have HE : Hid (out ++ runL run ++ putL (2 * foldN (el l k - last) + 1) ++ packGo (el l k) 0 (l.drop (k + 1)) = bs ++ packL l) := Lib.hid (by rw [← he.out, eo heq]; simp)
        have hd : (((el l k : Int) - last) == 0) = false := by simp; omega
        have hfl := foldN_le (z := el l k - last) (by omega) (by omega)
        have hrl := runL_len run
        have fo := fun W => Folded_ref (el l k - last) W (by omega) (by omega)
        obtain ⟨Y, hY⟩ : ∃ Y, 2 * foldN (el l k - last) + 1 = Y := ⟨_, rfl⟩
        have hYl := putL_len Y
        rw [hY] at HE
        have hYi : 2 * (foldN (el l k - last) : Int) + 1 = (Y : Int) := by omega
        have hF : (foldN (el l k - last) : Int) ≤ 8796093022208 := by omega
        have FO := Lib.hid fo
        generalize foldN (el l k - last) = F at *
        clear es eo he heq fo hY hfl
        by_cases h0 : 0 < run
        · obtain ⟨r2, hr2⟩ : ∃ r2, 2 * run = r2 := ⟨_, rfl⟩
          have e2 : (2 : Int) * (run : Int) = (r2 : Int) := by omega
          have hr3 : (r2 : Int) ≤ 2000000000000 := by omega
          have hr0 : (0 : Int) < run := by omega
          have HRL : Hid (runL run = putL r2) := Lib.hid (by unfold runL; rw [if_pos h0, hr2])
          have pn := fun W v (o : OwnB W B v out) (hs : B ≤ W.heap.size) => Put_ref B v out r2 W o hs (by omega) (by omega)
          have PN := Lib.hid pn
          clear pn hr2
          go_wp2_with fail
          refine (PN.out _ _ HOW.out hsz).mono ?_
          rintro e w1 ⟨v1, rfl, ho1, hb1⟩
          rw [← HRL.out] at ho1
          have HB1 := Lib.hid (HBE.out.trans hb1)
          have hs1 : B ≤ w1.heap.size := Nat.le_trans hsz hb1.size
          have pm := Put_ref B v1 (out ++ runL run) Y w1 ho1 hs1 (by omega) (by simp; omega)
          have PM := Lib.hid pm
          clear ho1 hb1 pm
          go_wp2_with fail
          refine (FO.out _).mono ?_
          rintro e w' ⟨rfl, rfl⟩
          go_wp2_with fail
          refine (PM.out).mono ?_
          rintro e w2 ⟨v2, rfl, ho2, hb2⟩
          have HO2 := Lib.hid ho2
          have HB2 := Lib.hid (HB1.out.trans hb2)
          have HOL : Hid ((out ++ runL run ++ putL Y).length ≤ 100000 + 20 * (k + 1)) := Lib.hid (by simp; omega)
          clear ho2 hb2
          generalize out ++ runL run ++ putL Y = out2 at *
          go_wp2
          go_roundw
          case rel => exact ⟨k + 1, 0, el l k, out2, by omega, by go_num, rfl, rfl, hz0, hz1, by omega, HOL.out, HO2.out, HE, HB2.out⟩
          case measure => simp [intOf]; try omega
        · obtain rfl : run = 0 := by omega
          rw [show runL 0 = [] from rfl, List.append_nil] at HE
          have pm := Put_ref B _ out Y wo HOW.out hsz (by omega) (by omega)
          have PM := Lib.hid pm
          clear pm hrl
          go_wp2_with fail
          refine (FO.out _).mono ?_
          rintro e w' ⟨rfl, rfl⟩
          go_wp2_with fail
          refine (PM.out).mono ?_
          rintro e w2 ⟨v2, rfl, ho2, hb2⟩
          have HO2 := Lib.hid ho2
          have HB2 := Lib.hid (HBE.out.trans hb2)
          have HOL : Hid ((out ++ putL Y).length ≤ 100000 + 20 * (k + 1)) := Lib.hid (by simp; omega)
          clear ho2 hb2
          generalize out ++ putL Y = out2 at *
          go_wp2
          go_roundw
          case rel => exact ⟨k + 1, 0, el l k, out2, by omega, by go_num, rfl, rfl, hz0, hz1, by omega, HOL.out, HO2.out, HE, HB2.out⟩
          case measure => simp [intOf]; try omega
    · obtain rfl : k = n := by omega
      have HE : Hid (out ++ runL run = bs ++ packL l) := Lib.hid (by rw [← he.out, List.drop_of_length_le (by rw [HL.out]; exact Nat.le_refl _), packGo])
      clear he hbe
      by_cases h0 : 0 < run
      · obtain ⟨r2, hr2⟩ : ∃ r2, 2 * run = r2 := ⟨_, rfl⟩
        have e2 : (2 : Int) * (run : Int) = (r2 : Int) := by omega
        have hr3 : (r2 : Int) ≤ 2000000000000 := by omega
        have hr0 : (0 : Int) < run := by omega
        have pn := Put_ref B _ out r2 wo HOW.out hsz (by omega) (by omega)
        rw [show putL r2 = runL run by unfold runL; rw [if_pos h0, hr2], HE.out] at pn
        have PN := Lib.hid pn
        clear pn hr2
        go_wp2_with fail
        refine (PN.out).mono ?_
        rintro e w1 ⟨v1, rfl, ho1, hb1⟩
        have HO1 := Lib.hid ho1
        have HB1 := Lib.hid (HBE.out.trans hb1)
        clear ho1 hb1
        go_wp2
        go_ret
        exact ⟨_, rfl, HO1.out, HB1.out⟩
      · obtain rfl : run = 0 := by omega
        rw [show runL 0 = [] from rfl, List.append_nil] at HE
        have HO1 : Hid (OwnB wo B u0 (bs ++ packL l)) := Lib.hid (by rw [← HE.out]; exact HOW.out)
        go_wp2
        go_ret
        exact ⟨_, rfl, HO1.out, HBE.out⟩
end Go.Proofs.Ytchnfahgmceohaa
