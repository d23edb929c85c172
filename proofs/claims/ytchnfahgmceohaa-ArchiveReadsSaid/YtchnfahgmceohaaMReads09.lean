/- Packed of the reference. -/
import Derived.Test.YtchnfahgmceohaaMReads08
import Derived.Test.YtchnfahgmceohaaMReads07

namespace Go.Proofs.Ytchnfahgmceohaa
open Go.RowKit
set_option linter.unusedVariables false

theorem Ints.belowB {w w' : World} {A : Option Addr} {n c B : Nat} {zs : List Int} (h : Ints w A n c zs) (hb : Below B w w') (hA : 0 < n → ∀ ad, A = some ad → ad.block < B) : Ints w' A n c zs :=
  h.keep hb.size fun ad j e hj => hb.cell (p := ad.add j) (by rw [block_of_add]; exact hA (by omega) ad e)

set_option maxRecDepth 100000 in
set_option maxHeartbeats 2000000 in
theorem Packed_ref {A : Option Addr} {n c : Nat} {l : List Int} (B : Nat) (v : Value) (bs : List Int) (w : World) (ho : OwnB w B v bs) (hB : B ≤ w.heap.size) (hbl : bs.length ≤ 100000) (h : Ints w A n c l) (hA : 0 < n → ∀ ad, A = some ad → ad.block < B) (hp : inP l) (hn : (n : Int) ≤ 10000) :
    Calls Try.prog 74 #[v, .slice A n c] w (RetO B (bs ++ packL l) w) := by
  have HL := Lib.hid h.len
  have hcap := h.cap
  have hmax := h.max
  have H := Lib.hid h
  have HA := Lib.hid hA
  have HP := Lib.hid hp
  have HO := Lib.hid ho
  clear h hp ho hA
  go_enter Try.func74, Try.ntmps74
  go_wp2
  go_loopw [0, 5, 6, 7] (fun t la ru i wr => ∃ (k run : Nat) (last : Int) (out : List Int), k ≤ n ∧ i = .int .i64 k ∧ la = .int .i64 last ∧ ru = .int .i64 run ∧ -1099511627776 ≤ last ∧ last ≤ 1099511627776 ∧ run ≤ k ∧ out.length ≤ 100000 + 20 * k ∧ OwnB wr B t out ∧ Hid (out ++ packGo last run (l.drop k) = bs ++ packL l) ∧ Below B w wr) (fun _ _ _ i _ => n - (intOf i).toNat)
  case atStart => exact ⟨0, 0, 0, bs, Nat.zero_le _, rfl, rfl, rfl, by omega, by omega, Nat.le_refl _, by omega, HO.out, Lib.hid rfl, Below.refl _ _⟩
  case round =>
    obtain ⟨k, run, last, out, hk, rfl, rfl, rfl, hl0, hl1, hrk, hok, hown, he, hbe⟩ := hrel
    generalize wr = wo at *
    have HOW := Lib.hid hown
    have HBE := Lib.hid hbe
    have hsz : B ≤ wo.heap.size := Nat.le_trans hB hbe.size
    clear hown
    by_cases hlt : k < n
    · obtain ⟨ad, hAe, hl, hc⟩ := (H.out.belowB hbe HA.out).at_ hlt
      subst hAe
      have hz := inP_el HP.out k
      have hkl : k < l.length := by rw [HL.out]; exact hlt
      have es := fun (e : el l k = last) => (pack_same (l := l) (run := run) hkl)
      have eo := fun (e : ¬ el l k = last) => (pack_other (l := l) (last := last) (run := run) hkl e)
      obtain ⟨hz0, hz1⟩ := hz
      clear hbe
      by_cases heq : el l k = last
      · have HE : Hid (out ++ packGo last (run + 1) (l.drop (k + 1)) = bs ++ packL l) := Lib.hid (by rw [← he.out]; congr 1; have := es heq; rw [heq] at this; exact this.symm)
        have HZ := Lib.hid heq
        have hd : (((el l k : Int) - last) == 0) = true := by simp; omega
        clear es eo he heq
        go_wp2
        go_roundw
        case rel => exact ⟨k + 1, run + 1, last, out, by omega, by go_num, by rw [HZ.out], by go_num, hl0, hl1, by omega, by omega, HOW.out, HE, HBE.out⟩
        case measure => simp [intOf]; try omega
      · have HE : Hid (out ++ runL run ++ putL (2 * foldN (el l k - last) + 1) ++ packGo (el l k) 0 (l.drop (k + 1)) = bs ++ packL l) := Lib.hid (by rw [← he.out, eo heq]; simp)
        have hd : (((el l k : Int) - last) == 0) = false := by simp; omega
        have hfl := foldN_le (z := el l k - last) (by omega) (by omega)
        have hrl := runL_len run
        have fo := fun W => Folded_ref (el l k - last) W (by omega) (by omega)
        obtain ⟨Y, hY⟩ : ∃ Y, 2 * foldN (el l k - last) + 1 = Y := ⟨_, rfl⟩
        have hYl := putL_len Y
        rw [hY] at HE
        have hYi : 2 * (foldN (el l k - last) : Int) + 1 = (Y : Int) := by omega
        have hF : (foldN (el l k - last) : Int) ≤ 8796093022208 := by omega
        have FO := Lib.hid fo
        generalize foldN (el l k - last) = F at *
        clear es eo he heq fo hY hfl
        by_cases h0 : 0 < run
        · obtain ⟨r2, hr2⟩ : ∃ r2, 2 * run = r2 := ⟨_, rfl⟩
          have e2 : (2 : Int) * (run : Int) = (r2 : Int) := by omega
          have hr3 : (r2 : Int) ≤ 2000000000000 := by omega
          have hr0 : (0 : Int) < run := by omega
          have HRL : Hid (runL run = putL r2) := Lib.hid (by unfold runL; rw [if_pos h0, hr2])
          have pn := fun W v (o : OwnB W B v out) (hs : B ≤ W.heap.size) => Put_ref B v out r2 W o hs (by omega) (by omega)
          have PN := Lib.hid pn
          clear pn hr2
          go_wp2_with fail
          refine (PN.out _ _ HOW.out hsz).mono ?_
          rintro e w1 ⟨v1, rfl, ho1, hb1⟩
          rw [← HRL.out] at ho1
          have HB1 := Lib.hid (HBE.out.trans hb1)
          have hs1 : B ≤ w1.heap.size := Nat.le_trans hsz hb1.size
          have pm := Put_ref B v1 (out ++ runL run) Y w1 ho1 hs1 (by omega) (by simp; omega)
          have PM := Lib.hid pm
          clear ho1 hb1 pm
          go_wp2_with fail
          refine (FO.out _).mono ?_
          rintro e w' ⟨rfl, rfl⟩
          go_wp2_with fail
          refine (PM.out).mono ?_
          rintro e w2 ⟨v2, rfl, ho2, hb2⟩
          have HO2 := Lib.hid ho2
          have HB2 := Lib.hid (HB1.out.trans hb2)
          have HOL : Hid ((out ++ runL run ++ putL Y).length ≤ 100000 + 20 * (k + 1)) := Lib.hid (by simp; omega)
          clear ho2 hb2
          generalize out ++ runL run ++ putL Y = out2 at *
          go_wp2
          go_roundw
          case rel => exact ⟨k + 1, 0, el l k, out2, by omega, by go_num, rfl, rfl, hz0, hz1, by omega, HOL.out, HO2.out, HE, HB2.out⟩
          case measure => simp [intOf]; try omega
        · obtain rfl : run = 0 := by omega
          rw [show runL 0 = [] from rfl, List.append_nil] at HE
          have pm := Put_ref B _ out Y wo HOW.out hsz (by omega) (by omega)
          have PM := Lib.hid pm
          clear pm hrl
          go_wp2_with fail
          refine (FO.out _).mono ?_
          rintro e w' ⟨rfl, rfl⟩
          go_wp2_with fail
          refine (PM.out).mono ?_
          rintro e w2 ⟨v2, rfl, ho2, hb2⟩
          have HO2 := Lib.hid ho2
          have HB2 := Lib.hid (HBE.out.trans hb2)
          have HOL : Hid ((out ++ putL Y).length ≤ 100000 + 20 * (k + 1)) := Lib.hid (by simp; omega)
          clear ho2 hb2
          generalize out ++ putL Y = out2 at *
          go_wp2
          go_roundw
          case rel => exact ⟨k + 1, 0, el l k, out2, by omega, by go_num, rfl, rfl, hz0, hz1, by omega, HOL.out, HO2.out, HE, HB2.out⟩
          case measure => simp [intOf]; try omega
    · obtain rfl : k = n := by omega
      have HE : Hid (out ++ runL run = bs ++ packL l) := Lib.hid (by rw [← he.out, List.drop_of_length_le (by rw [HL.out]; exact Nat.le_refl _), packGo])
      clear he hbe
      by_cases h0 : 0 < run
      · obtain ⟨r2, hr2⟩ : ∃ r2, 2 * run = r2 := ⟨_, rfl⟩
        have e2 : (2 : Int) * (run : Int) = (r2 : Int) := by omega
        have hr3 : (r2 : Int) ≤ 2000000000000 := by omega
        have hr0 : (0 : Int) < run := by omega
        have pn := Put_ref B _ out r2 wo HOW.out hsz (by omega) (by omega)
        rw [show putL r2 = runL run by unfold runL; rw [if_pos h0, hr2], HE.out] at pn
        have PN := Lib.hid pn
        clear pn hr2
        go_wp2_with fail
        refine (PN.out).mono ?_
        rintro e w1 ⟨v1, rfl, ho1, hb1⟩
        have HO1 := Lib.hid ho1
        have HB1 := Lib.hid (HBE.out.trans hb1)
        clear ho1 hb1
        go_wp2
        go_ret
        exact ⟨_, rfl, HO1.out, HB1.out⟩
      · obtain rfl : run = 0 := by omega
        rw [show runL 0 = [] from rfl, List.append_nil] at HE
        have HO1 : Hid (OwnB wo B u0 (bs ++ packL l)) := Lib.hid (by rw [← HE.out]; exact HOW.out)
        go_wp2
        go_ret
        exact ⟨_, rfl, HO1.out, HBE.out⟩
end Go.Proofs.Ytchnfahgmceohaa

/- record of the program. -/
namespace Go.Proofs.Ytchnfahgmceohaa
open Go.RowKit
set_option linter.unusedVariables false

/-- The four bytes of a number, those from the shift z on. -/
def beTo (n z : Int) : List Int := if z = 24 then [] else if z = 16 then [n / 16777216 % 256] else if z = 8 then [n / 16777216 % 256, n / 65536 % 256] else if z = 0 then [n / 16777216 % 256, n / 65536 % 256, n / 256 % 256] else be4 n

set_option maxRecDepth 100000 in
set_option maxHeartbeats 2000000 in
theorem record_calls {A : Option Addr} {n c : Nat} {ds : List Int} (f st : Int) (w : World) (h : Ints w A n c ds) (hv : validS f st ds = true) :
    Calls Try.prog 38 #[serA f st A n c] w (RetY (recL f st ds) w) := by
  have hcap := h.cap
  have hmax := h.max
  have hlen := h.len
  obtain ⟨⟨f0, f1, k0, k1, n1, e0, e1⟩, hd⟩ := validS_parts hv
  rw [hlen] at n1
  have S := Lib.hid (SBox.made w f st A n c)
  have H := Lib.hid h
  have HB := Lib.hid ((Below.refl w.heap.size w).alloc (Nat.le_refl _) (serO f st A n c))
  have HD := Lib.hid (inP_dep hd)
  have HL := Lib.hid hlen
  obtain ⟨T, hT⟩ : ∃ T : Nat, st = T := ⟨st.toNat, by omega⟩
  subst hT
  have fo := fun W => folded_calls f W (by omega) (by omega)
  have FO := Lib.hid fo
  have hfl : foldN f ≤ 8796093022208 := foldN_le (by omega) (by omega)
  obtain ⟨F, hF⟩ : ∃ F, foldN f = F := ⟨_, rfl⟩
  rw [hF] at FO hfl
  have HR : Hid (recL f T ds = putL (putL F ++ putL T ++ putL n ++ packL ds).length ++ (putL F ++ putL T ++ putL n ++ packL ds) ++ be4 (sumB (putL F ++ putL T ++ putL n ++ packL ds))) := Lib.hid (by unfold recL payL; rw [hF, hlen, Int.toNat_natCast])
  have hl1 := putL_len F
  have hl2 := putL_len T
  have hl3 := putL_len n
  have hl4 := packGo_len ds 0 0
  rw [hlen, show packGo 0 0 ds = packL ds from rfl] at hl4
  obtain ⟨s0, s1, s2, sl⟩ := S.out
  have p1 := putNumber_calls (w.heap.size + 1) (.slice none 0 0) [] F (w.alloc (serO f T A n c)) (OwnB.nil _ _) (by simp) (by omega) (by simp)
  have P1 := Lib.hid p1
  clear h hv hd hlen p1 hF fo
  go_enter Try.func38, Try.ntmps38
  go_wp2_with fail
  refine (FO.out _).mono ?_
  rintro e w' ⟨rfl, rfl⟩
  go_wp2_with fail
  refine (P1.out).mono ?_
  rintro e w1 ⟨v1, rfl, o1, b1⟩
  rw [List.nil_append] at o1
  have S1 := S.out.below b1 (by omega)
  have BB1 := Lib.hid (HB.out.trans (b1.mono (by omega)))
  have z1 : w.heap.size + 1 ≤ w1.heap.size := by have := b1.size; simp at this; omega
  have p2 := putNumber_calls (w.heap.size + 1) v1 (putL F) T w1 o1 z1 (by omega) (by omega)
  have P2 := Lib.hid p2
  clear s0 s1 s2 sl p2 o1 b1
  have SS := Lib.hid S1
  obtain ⟨s0, s1, s2, sl⟩ := S1
  go_wp2_with fail
  refine (P2.out).mono ?_
  rintro e w2 ⟨v2, rfl, o2, b2⟩
  have S2 := SS.out.below b2 (by omega)
  have BB2 := Lib.hid (BB1.out.trans (b2.mono (by omega)))
  have z2 : w.heap.size + 1 ≤ w2.heap.size := by have := b2.size; omega
  have p3 := putNumber_calls (w.heap.size + 1) v2 (putL F ++ putL T) n w2 o2 z2 (by omega) (by simp; omega)
  have P3 := Lib.hid p3
  clear s0 s1 s2 sl p3 o2 b2 SS
  have SS := Lib.hid S2
  obtain ⟨s0, s1, s2, sl⟩ := S2
  go_wp2_with fail
  refine (P3.out).mono ?_
  rintro e w3 ⟨v3, rfl, o3, b3⟩
  have S3 := SS.out.below b3 (by omega)
  have BB3 := Lib.hid (BB2.out.trans (b3.mono (by omega)))
  have z3 : w.heap.size + 1 ≤ w3.heap.size := by have := b3.size; omega
  have p4 := pack_calls w3 (H.out.below BB3.out) HD.out (by omega)
  have P4 := Lib.hid p4
  have O3 := Lib.hid o3
  clear s0 s1 s2 sl p4 o3 b3 SS
  obtain ⟨s0, s1, s2, sl⟩ := S3
  go_wp2_with fail
  refine (P4.out).mono ?_
  rintro e w4 ⟨v4, rfl, o4, b4⟩
  obtain ⟨A4, n4, c4, rfl, y4, -⟩ := o4.ints
  have O4 := Lib.hid (O3.out.below b4)
  have BB4 := Lib.hid (BB3.out.trans (b4.mono (by omega)))
  have z4 : w.heap.size + 1 ≤ w4.heap.size := by have := b4.size; omega
  have Y4 := Lib.hid y4
  clear s0 s1 s2 sl o4 b4 y4
  go_wp2_with (at_builtin; refine wpList_append_bytes w4 (w.heap.size + 1) v3 (putL F ++ putL T ++ putL n) A4 n4 c4 (packL ds) rfl _ _ rfl rfl rfl O4.out z4 Y4.out (by simp; omega) ?_)
  intro v5 w5 o5 b5
  obtain ⟨P, hP⟩ : ∃ P, putL F ++ putL T ++ putL n ++ packL ds = P := ⟨_, rfl⟩
  have hPl : P.length ≤ 40 + 20 * n := by rw [← hP]; simp; omega
  rw [hP] at HR
  have o5' : OwnB w5 (w.heap.size + 1) v5 P := by rw [← hP]; simpa using o5
  obtain ⟨A5, n5, c5, rfl, y5, -⟩ := o5'.ints
  obtain rfl : n5 = P.length := y5.len.symm
  have BB5 := Lib.hid (BB4.out.trans (b5.mono (by omega)))
  have p6 := putNumber_calls w5.heap.size (.slice none 0 0) [] P.length w5 (OwnB.nil _ _) (Nat.le_refl _) (by omega) (by simp)
  have P6 := Lib.hid p6
  have Y5 := Lib.hid y5
  have hq := putL_len P.length
  have HPL : Hid (P.length ≤ 40 + 20 * n) := Lib.hid hPl
  clear o5 o5' b5 y5 p6
  go_wp2_with fail
  refine (P6.out).mono ?_
  rintro e w6 ⟨v6, rfl, o6, b6⟩
  rw [List.nil_append] at o6
  have O6 := Lib.hid o6
  have BB6 := Lib.hid (BB5.out.trans (b6.mono BB5.out.size))
  have Y6 := Lib.hid (Y5.out.below b6)
  have z6 : w5.heap.size ≤ w6.heap.size := b6.size
  have B56 := Lib.hid b6
  clear o6 b6
  go_wp2_with (at_builtin; refine wpList_append_bytes w6 w5.heap.size v6 (putL P.length) A5 P.length c5 P rfl _ _ rfl rfl rfl O6.out z6 Y6.out (by omega) ?_)
  intro v7 w7 o7 b7
  have O7 := Lib.hid o7
  have BB7 := Lib.hid (BB6.out.trans (b7.mono BB5.out.size))
  have z7 : w5.heap.size ≤ w7.heap.size := Nat.le_trans z6 b7.size
  have B57 := Lib.hid (B56.out.trans b7)
  have sm := sum_calls w7 (Y5.out.below B57.out)
  have sbd := sumB_bd P
  have HRP : Hid (recL f T ds = putL P.length ++ P ++ be4 (sumB P)) := Lib.hid HR.out
  obtain ⟨N, hN⟩ : ∃ N : Nat, sumB P = N := ⟨(sumB P).toNat, by omega⟩
  rw [hN] at sm sbd HRP
  have SM := Lib.hid sm
  obtain ⟨Q, hQ⟩ : ∃ Q, putL P.length ++ P = Q := ⟨_, rfl⟩
  have hQl : Q.length ≤ 50 + 20 * n := by rw [← hQ]; simp; omega
  rw [hQ] at O7 HRP
  have hb24 : (N : Int) / 16777216 % 256 = (N : Int) / 16777216 := by omega
  clear o7 b7 sm hN hQ HR Y6 O6
  go_wp2_with fail
  refine (SM.out).mono ?_
  rintro e w' ⟨rfl, rfl⟩
  go_wp2
  go_loopw [4, 6] (fun t i wr => ∃ z : Int, (z = 24 ∨ z = 16 ∨ z = 8 ∨ z = 0 ∨ z = -8) ∧ i = .int .i64 z ∧ OwnB wr w5.heap.size t (Q ++ beTo N z) ∧ Below w5.heap.size w7 wr) (fun _ i _ => (intOf i + 8).toNat)
  case atStart => exact ⟨24, by omega, rfl, by rw [show beTo (N : Int) 24 = [] from rfl, List.append_nil]; exact O7.out, Below.refl _ _⟩
  case round =>
    obtain ⟨z, hz, rfl, ho, hb⟩ := hrel
    generalize wr = wo at *
    have HO := Lib.hid ho
    have HBE := Lib.hid hb
    have zo : w5.heap.size ≤ wo.heap.size := Nat.le_trans z7 hb.size
    clear ho hb
    rcases hz with rfl | rfl | rfl | rfl | rfl
    · have hbe : beTo (N : Int) 24 ++ [(N : Int) / 16777216] = beTo N 16 := by rw [← hb24]; rfl
      have HBX := Lib.hid hbe
      clear hbe
      go_wp2_with (at_builtin; refine wpList_append_byte wo w5.heap.size _ (Q ++ beTo N 24) ((N : Int) / 16777216) rfl _ _ rfl rfl rfl HO.out zo (by simp [beTo]; omega) (by omega) ?_)
      intro v8 w8 o8 b8
      have O8 : Hid (OwnB w8 w5.heap.size v8 (Q ++ beTo N 16)) := Lib.hid (by rw [← HBX.out]; exact o8)
      have BB8 := Lib.hid (HBE.out.trans b8)
      clear o8 b8
      go_wp2
      go_roundw
      case rel => exact ⟨16, by omega, rfl, O8.out, BB8.out⟩
      case measure => simp [intOf]
    · have hbe : beTo (N : Int) 16 ++ [(N : Int) / 65536 % 256] = beTo N 8 := by rfl
      have HBX := Lib.hid hbe
      clear hbe
      go_wp2_with (at_builtin; refine wpList_append_byte wo w5.heap.size _ (Q ++ beTo N 16) ((N : Int) / 65536 % 256) rfl _ _ rfl rfl rfl HO.out zo (by simp [beTo]; omega) (by omega) ?_)
      intro v8 w8 o8 b8
      have O8 : Hid (OwnB w8 w5.heap.size v8 (Q ++ beTo N 8)) := Lib.hid (by rw [← HBX.out]; exact o8)
      have BB8 := Lib.hid (HBE.out.trans b8)
      clear o8 b8
      go_wp2
      go_roundw
      case rel => exact ⟨8, by omega, rfl, O8.out, BB8.out⟩
      case measure => simp [intOf]
    · have hbe : beTo (N : Int) 8 ++ [(N : Int) / 256 % 256] = beTo N 0 := by rfl
      have HBX := Lib.hid hbe
      clear hbe
      go_wp2_with (at_builtin; refine wpList_append_byte wo w5.heap.size _ (Q ++ beTo N 8) ((N : Int) / 256 % 256) rfl _ _ rfl rfl rfl HO.out zo (by simp [beTo]; omega) (by omega) ?_)
      intro v8 w8 o8 b8
      have O8 : Hid (OwnB w8 w5.heap.size v8 (Q ++ beTo N 0)) := Lib.hid (by rw [← HBX.out]; exact o8)
      have BB8 := Lib.hid (HBE.out.trans b8)
      clear o8 b8
      go_wp2
      go_roundw
      case rel => exact ⟨0, by omega, rfl, O8.out, BB8.out⟩
      case measure => simp [intOf]
    · have hbe : beTo (N : Int) 0 ++ [(N : Int) % 256] = beTo N (-8) := by rfl
      have HBX := Lib.hid hbe
      clear hbe
      go_wp2_with (at_builtin; refine wpList_append_byte wo w5.heap.size _ (Q ++ beTo N 0) ((N : Int) % 256) rfl _ _ rfl rfl rfl HO.out zo (by simp [beTo]; omega) (by omega) ?_)
      intro v8 w8 o8 b8
      have O8 : Hid (OwnB w8 w5.heap.size v8 (Q ++ beTo N (-8))) := Lib.hid (by rw [← HBX.out]; exact o8)
      have BB8 := Lib.hid (HBE.out.trans b8)
      clear o8 b8
      go_wp2
      go_roundw
      case rel => exact ⟨(-8), by omega, rfl, O8.out, BB8.out⟩
      case measure => simp [intOf]
    · have O8 : Hid (OwnB wo w.heap.size u4 (recL f T ds)) := Lib.hid (by rw [HRP.out]; exact HO.out.mono BB5.out.size)
      have BB8 := Lib.hid (BB7.out.trans (HBE.out.mono BB5.out.size))
      go_wp2
      go_ret
      exact ⟨_, rfl, O8.out, BB8.out⟩
end Go.Proofs.Ytchnfahgmceohaa
