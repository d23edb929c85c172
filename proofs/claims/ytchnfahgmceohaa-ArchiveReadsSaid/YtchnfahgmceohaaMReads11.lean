/- Payload and add of the reference. -/
import Derived.Test.YtchnfahgmceohaaMReads07
import Derived.Test.YtchnfahgmceohaaMReads09
import Derived.Test.YtchnfahgmceohaaMReads06
import Derived.Deep.QuietTactic
import Derived.BigQuiet

namespace Go.Proofs.Ytchnfahgmceohaa
open Go.RowKit
set_option linter.unusedVariables false

set_option maxRecDepth 100000 in
set_option maxHeartbeats 2000000 in
theorem Payload_ref {A : Option Addr} {n c : Nat} {ds : List Int} (f st : Int) (w : World) (h : Ints w A n c ds) (hv : validS f st ds = true) :
    Calls Try.prog 60 #[serA f st A n c] w (RetY (payL f st ds) w) := by
  have hcap := h.cap
  have hmax := h.max
  have hlen := h.len
  obtain ⟨⟨f0, f1, k0, k1, n1, e0, e1⟩, hd⟩ := validS_parts hv
  rw [hlen] at n1
  have S := Lib.hid (SBox.made w f st A n c)
  have H := Lib.hid h
  have HB := Lib.hid ((Below.refl w.heap.size w).alloc (Nat.le_refl _) (serO f st A n c))
  have HD := Lib.hid (inP_dep hd)
  have HL := Lib.hid hlen
  obtain ⟨T, hT⟩ : ∃ T : Nat, st = T := ⟨st.toNat, by omega⟩
  subst hT
  have fo := fun W => Folded_ref f W (by omega) (by omega)
  have FO := Lib.hid fo
  have hfl : foldN f ≤ 8796093022208 := foldN_le (by omega) (by omega)
  obtain ⟨F, hF⟩ : ∃ F, foldN f = F := ⟨_, rfl⟩
  rw [hF] at FO hfl
  have HR : Hid (payL f T ds = putL F ++ putL T ++ putL n ++ packL ds) := Lib.hid (by unfold payL; rw [hF, hlen, Int.toNat_natCast])
  have hl1 := putL_len F
  have hl2 := putL_len T
  have hl3 := putL_len n
  obtain ⟨s0, s1, s2, sl⟩ := S.out
  have p1 := Put_ref (w.heap.size + 1) (.slice none 0 0) [] F (w.alloc (serO f T A n c)) (OwnB.nil _ _) (by simp) (by omega) (by simp)
  have P1 := Lib.hid p1
  clear h hv hd hlen p1 hF fo
  go_enter Try.func60, Try.ntmps60
  go_wp2_with fail
  refine (FO.out _).mono ?_
  rintro e w' ⟨rfl, rfl⟩
  go_wp2_with fail
  refine (P1.out).mono ?_
  rintro e w1 ⟨v1, rfl, o1, b1⟩
  rw [List.nil_append] at o1
  have S1 := S.out.below b1 (by omega)
  have BB1 := Lib.hid (HB.out.trans (b1.mono (by omega)))
  have z1 : w.heap.size + 1 ≤ w1.heap.size := by have := b1.size; simp at this; omega
  have p2 := Put_ref (w.heap.size + 1) v1 (putL F) T w1 o1 z1 (by omega) (by omega)
  have P2 := Lib.hid p2
  clear s0 s1 s2 sl p2 o1 b1
  have SS := Lib.hid S1
  obtain ⟨s0, s1, s2, sl⟩ := S1
  go_wp2_with fail
  refine (P2.out).mono ?_
  rintro e w2 ⟨v2, rfl, o2, b2⟩
  have S2 := SS.out.below b2 (by omega)
  have BB2 := Lib.hid (BB1.out.trans (b2.mono (by omega)))
  have z2 : w.heap.size + 1 ≤ w2.heap.size := by have := b2.size; omega
  have p3 := Put_ref (w.heap.size + 1) v2 (putL F ++ putL T) n w2 o2 z2 (by omega) (by simp; omega)
  have P3 := Lib.hid p3
  clear s0 s1 s2 sl p3 o2 b2 SS
  have SS := Lib.hid S2
  obtain ⟨s0, s1, s2, sl⟩ := S2
  go_wp2_with fail
  refine (P3.out).mono ?_
  rintro e w3 ⟨v3, rfl, o3, b3⟩
  have S3 := SS.out.below b3 (by omega)
  have BB3 := Lib.hid (BB2.out.trans (b3.mono (by omega)))
  have z3 : w.heap.size + 1 ≤ w3.heap.size := by have := b3.size; omega
  have hA : 0 < n → ∀ ad, A = some ad → ad.block < w.heap.size + 1 := fun hn0 ad e => by
    obtain ⟨ad0, hA0, hlt0, -⟩ := H.out.mem hn0
    rw [hA0] at e
    obtain rfl := Option.some.inj e
    omega
  have p4 := Packed_ref (w.heap.size + 1) v3 (putL F ++ putL T ++ putL n) w3 o3 z3 (by simp; omega) (H.out.below BB3.out) hA HD.out (by omega)
  rw [← HR.out] at p4
  have P4 := Lib.hid p4
  clear s0 s1 s2 sl p4 o3 b3 SS hA
  obtain ⟨s0, s1, s2, sl⟩ := S3
  go_wp2_with fail
  refine (P4.out).mono ?_
  rintro e w4 ⟨v4, rfl, o4, b4⟩
  have O4 := Lib.hid (o4.mono (show w.heap.size ≤ w.heap.size + 1 by omega))
  have BB4 := Lib.hid (BB3.out.trans (b4.mono (by omega)))
  clear s0 s1 s2 sl o4 b4
  go_wp2
  go_ret
  exact ⟨_, rfl, O4.out, BB4.out⟩

set_option maxRecDepth 100000 in
set_option maxHeartbeats 2000000 in
theorem add_ref {A : Option Addr} {n c : Nat} {ds : List Int} (f st : Int) (B : Nat) (v : Value) (bs : List Int) (w : World) (ho : OwnB w B v bs) (hB : B ≤ w.heap.size) (hbl : bs.length ≤ 100000000000) (h : Ints w A n c ds) (hv : validS f st ds = true) :
    Calls Try.prog 40 #[v, serA f st A n c] w (RetG B (bs ++ recL f st ds) v w) := by
  have hcap := h.cap
  have hmax := h.max
  have hlen := h.len
  have n1 := (validS_parts hv).1.n1
  rw [hlen] at n1
  obtain ⟨s0, s1, s2, sl⟩ := SBox.made w f st A n c
  have G0 := Lib.hid (Gro.alloc w v (serO f st A n c))
  have hpl := payL_len f st ds
  rw [hlen] at hpl
  have pd := Payload_ref f st (w.alloc (serO f st A n c)) (h.alloc _) hv
  have HR : Hid (recL f st ds = putL (payL f st ds).length ++ payL f st ds ++ be4 (sumB (payL f st ds))) := Lib.hid rfl
  have hlt := fun k (hk : v.ownBlock = some k) => (ho.row.lt k hk).2
  have HLT := Lib.hid hlt
  generalize payL f st ds = P at *
  have PD := Lib.hid pd
  have HO := Lib.hid (ho.below ((Below.refl w.heap.size w).alloc (Nat.le_refl _) (serO f st A n c)))
  clear h hv hlen pd ho hlt
  go_enter Try.func40, Try.ntmps40
  go_wp2_with fail
  refine (PD.out).mono ?_
  rintro e w1 ⟨vp, rfl, op, b1⟩
  obtain ⟨Ap, np, cp, rfl, yp, hfr⟩ := op.ints
  obtain rfl : np = P.length := yp.len.symm
  have z1 : B ≤ w1.heap.size := by have := b1.size; simp at this; omega
  have hne : 0 < P.length → ∀ ad, Ap = some ad → v.ownBlock ≠ some ad.block := fun _ ad e hv => by
    have h1 := hfr ad e
    have h2 := HLT.out _ hv
    simp at h1
    omega
  have o1 := HO.out.below b1
  have G1 := Lib.hid (G0.out.trans (Gro.of_below v b1))
  have pp := Put_refG B v bs P.length w1 o1 z1 (by omega) (by omega)
  have PP := Lib.hid pp
  have YP := Lib.hid yp
  have HNE := Lib.hid hne
  have hq := putL_len P.length
  clear s0 s1 s2 sl op b1 yp hfr o1 pp hne
  go_wp2_with fail
  refine (PP.out).mono ?_
  rintro e w2 ⟨v2, rfl, o2, g2⟩
  have Y2 := Lib.hid (YP.out.gro g2 HNE.out)
  have hne2 : 0 < P.length → ∀ ad, Ap = some ad → v2.ownBlock ≠ some ad.block := fun hp ad e hv => by
    rcases g2.o with e2 | ⟨k, e2, hk⟩
    · exact HNE.out hp ad e (by rw [← e2]; exact hv)
    · rw [e2] at hv
      injection hv with hv
      obtain ⟨ad', e3, hl3, -⟩ := YP.out.mem hp
      rw [e3] at e
      obtain rfl := Option.some.inj e
      omega
  have HNE2 := Lib.hid hne2
  have z2 : B ≤ w2.heap.size := Nat.le_trans z1 g2.g.size
  have G2 := Lib.hid (G1.out.trans g2)
  have O2 := Lib.hid o2
  clear o2 g2 hne2
  go_wp2_with (at_builtin; refine wpList_append_bytesG w2 B v2 (bs ++ putL P.length) Ap P.length cp P rfl _ _ rfl rfl rfl O2.out z2 Y2.out (by simp; omega) ?_)
  intro v3 w3 o3 g3
  have Y3 := Y2.out.gro g3 HNE2.out
  have z3 : B ≤ w3.heap.size := Nat.le_trans z2 g3.g.size
  have G3 := Lib.hid (G2.out.trans g3)
  have sm := Sum_ref w3 Y3
  have sbd := sumB_bd P
  obtain ⟨N, hN⟩ : ∃ N : Nat, sumB P = N := ⟨(sumB P).toNat, by omega⟩
  have HRN : Hid (bs ++ recL f st ds = bs ++ (putL P.length ++ P) ++ be4 N) := Lib.hid (by rw [HR.out, hN]; simp)
  rw [hN] at sm sbd
  have SM := Lib.hid sm
  have o3' : OwnB w3 B v3 (bs ++ (putL P.length ++ P)) := by rw [← List.append_assoc]; simpa using o3
  have O3 := Lib.hid o3'
  have b24 : (N : Int) / 16777216 % 256 = (N : Int) / 16777216 := by omega
  have Z4 : Hid (Byts (w3.alloc (.cells #[.int .u8 ((N : Int) / 16777216), .int .u8 ((N : Int) / 65536 % 256), .int .u8 ((N : Int) / 256 % 256), .int .u8 ((N : Int) % 256)] 5)) (some ⟨w3.heap.size, 0, none⟩) 4 4 (be4 N)) := Lib.hid (by
    have := Byts.lit w3 (be4 N) (by simp [be4]) (by intro z hz; simp [be4] at hz; omega)
    unfold be4 at this ⊢
    rw [b24] at this ⊢
    exact this)
  clear o3 o3' g3 Y3 sm hN HR
  go_wp2_with fail
  refine (SM.out).mono ?_
  rintro e w' ⟨rfl, rfl⟩
  go_wp2_with (at_builtin; refine wpList_append_bytesG _ B v3 (bs ++ (putL P.length ++ P)) (some ⟨w3.heap.size, 0, none⟩) 4 4 (be4 N) rfl _ _ rfl rfl rfl (O3.out.below ((Below.refl _ _).alloc (Nat.le_refl _) _)) (by simp; omega) Z4.out (by simp [be4]; omega) ?_)
  intro v4 w4 o4 g4
  have O4 : Hid (OwnB w4 B v4 (bs ++ recL f st ds)) := Lib.hid (by rw [HRN.out]; simpa using o4)
  have G4 := Lib.hid ((G3.out.trans (Gro.alloc w3 v3 _)).trans g4)
  clear o4 g4
  go_wp2
  go_ret
  exact ⟨_, rfl, O4.out, G4.out⟩
end Go.Proofs.Ytchnfahgmceohaa

/- The reference's Valid, and Same, at records. -/
namespace Go.Proofs.Ytchnfahgmceohaa
open Go.RowKit
set_option linter.unusedVariables false

set_option maxHeartbeats 2000000 in
set_option maxRecDepth 100000 in
theorem rValid_calls {A : Option Addr} {n c : Nat} {ds : List Int} (f st : Int) (w : World) (h : Ints w A n c ds) :
    Calls Try.prog 39 #[serA f st A n c] w fun e w' => e = .returned (.bool (validS f st ds)) ∧ Below w.heap.size w w' := by
  have hcap := h.cap
  have hmax := h.max
  have S := SBox.made w f st A n c
  have HB := Lib.hid ((Below.refl w.heap.size w).alloc (Nat.le_refl _) (serO f st A n c))
  unfold validS
  have hlen := h.len
  rw [hlen]
  obtain ⟨s0, s1, s2, sl⟩ := S
  have i1 := fun W => Instant_ref f W
  have i2 := fun W => Instant_ref (f + st * n) W
  have i3 := fun W => Length_ref st W
  cases hf : frameB f st n
  · rw [Bool.false_and]
    unfold frameB at hf
    cases hi : instB f
    · rw [hi] at i1
      have I1 := Lib.hid i1
      clear h hf hi i1 i2 i3 hlen
      go_enter Try.func39, Try.ntmps39
      go_wp2_with fail
      refine (I1.out _).mono ?_
      rintro e w1 ⟨rfl, rfl⟩
      go_wp2
      go_ret
      exact ⟨rfl, HB.out⟩
    rw [hi, Bool.true_and] at hf
    rw [hi] at i1
    have I1 := Lib.hid i1
    cases hj : lenB st
    · rw [hj] at i3
      have I3 := Lib.hid i3
      clear h hf hi i1 i2 i3 hj hlen
      go_enter Try.func39, Try.ntmps39
      go_wp2_with fail
      refine (I1.out _).mono ?_
      rintro e w1 ⟨rfl, rfl⟩
      go_wp2_with fail
      refine (I3.out _).mono ?_
      rintro e w1 ⟨rfl, rfl⟩
      go_wp2
      go_ret
      exact ⟨rfl, HB.out⟩
    rw [hj, Bool.true_and] at hf
    rw [hj] at i3
    have I3 := Lib.hid i3
    by_cases h3 : 10000 < (n : Int)
    · clear h hf hi hj i1 i2 i3 hlen
      go_enter Try.func39, Try.ntmps39
      go_wp2_with fail
      refine (I1.out _).mono ?_
      rintro e w1 ⟨rfl, rfl⟩
      go_wp2_with fail
      refine (I3.out _).mono ?_
      rintro e w1 ⟨rfl, rfl⟩
      go_wp2
      go_ret
      exact ⟨rfl, HB.out⟩
    rw [decide_eq_true (show n ≤ 10000 by omega), Bool.true_and] at hf
    have hs := lenB_iff.1 hj
    obtain ⟨P, hP⟩ : ∃ P, st * (n : Int) = P := ⟨_, rfl⟩
    have hp0 : 0 ≤ P := by rw [← hP]; exact Int.mul_nonneg (by omega) (by omega)
    have hp1 : P ≤ 86400 * 10000 := by rw [← hP]; exact Int.mul_le_mul (by omega) (by omega) (by omega) (by omega)
    rw [hf, hP] at i2
    have hff := instB_iff.1 hi
    have I2 := Lib.hid i2
    clear h hf hi hj i1 i2 i3 hlen
    go_enter Try.func39, Try.ntmps39
    go_wp2_with fail
    refine (I1.out _).mono ?_
    rintro e w1 ⟨rfl, rfl⟩
    go_wp2_with fail
    refine (I3.out _).mono ?_
    rintro e w1 ⟨rfl, rfl⟩
    go_wp2_with fail
    refine (I2.out _).mono ?_
    rintro e w1 ⟨rfl, rfl⟩
    go_wp2
    go_ret
    exact ⟨rfl, HB.out⟩
  · rw [Bool.true_and]
    obtain ⟨f0, f1, k0, k1, n1, e0, e1⟩ := frameB_iff.1 hf
    rw [instB_iff.2 ⟨f0, f1⟩] at i1
    rw [instB_iff.2 ⟨e0, e1⟩] at i2
    rw [lenB_iff.2 ⟨k0, k1⟩] at i3
    obtain ⟨P, hP⟩ : ∃ P, st * (n : Int) = P := ⟨_, rfl⟩
    have hp0 : 0 ≤ P := by rw [← hP]; exact Int.mul_nonneg (by omega) (by omega)
    have hp1 : P ≤ 86400 * 10000 := by rw [← hP]; exact Int.mul_le_mul (by omega) (by omega) (by omega) (by omega)
    rw [hP] at i2 e0 e1
    obtain ⟨V, hV⟩ : ∃ V, (!ds.any badD) = V := ⟨_, rfl⟩
    rw [hV]
    have HV := Lib.hid hV
    have I1 := Lib.hid i1
    have I2 := Lib.hid i2
    have I3 := Lib.hid i3
    have H := Lib.hid (h.alloc (serO f st A n c))
    have HL := Lib.hid hlen
    have h3 : ¬ 10000 < (n : Int) := by omega
    clear h hf i1 i2 i3 hV hlen
    go_enter Try.func39, Try.ntmps39
    go_wp2_with fail
    refine (I1.out _).mono ?_
    rintro e w1 ⟨rfl, rfl⟩
    go_wp2_with fail
    refine (I3.out _).mono ?_
    rintro e w1 ⟨rfl, rfl⟩
    go_wp2_with fail
    refine (I2.out _).mono ?_
    rintro e w1 ⟨rfl, rfl⟩
    go_wp2
    go_loop [3] (fun i => ∃ k : Nat, k ≤ n ∧ i = .int .i64 k ∧ ∀ j, j < k → badD (el ds j) = false) (fun i => n - (intOf i).toNat)
    case atStart => exact ⟨0, Nat.zero_le _, rfl, fun j hj => absurd hj (by omega)⟩
    case round =>
      obtain ⟨k, hk, rfl, hno⟩ := hrel
      have HN := Lib.hid hno
      clear hno
      by_cases hlt : k < n
      · obtain ⟨ad, rfl, hl, hc⟩ := H.out.at_ hlt
        have HY : Hid (badD (el ds k) = true → V = false) := Lib.hid fun hb => by rw [← HV.out, any_at (by rw [HL.out]; exact hlt) hb]; rfl
        have HS : Hid (badD (el ds k) = false → ∀ j, j < k + 1 → badD (el ds j) = false) := Lib.hid fun hb j hj => by
          by_cases hjk : j = k
          · subst hjk; exact hb
          · exact HN.out j (by omega)
        generalize el ds k = y at *
        by_cases b0 : y < -1
        · have hv : V = false := HY.out (by unfold badD; rw [decide_eq_true b0]; rfl)
          subst hv
          go_wp2
          go_ret
          exact ⟨rfl, HB.out⟩
        by_cases b1 : 4194304 < y
        · have hv : V = false := HY.out (by unfold badD; rw [decide_eq_true b1, Bool.or_true])
          subst hv
          go_wp2
          go_ret
          exact ⟨rfl, HB.out⟩
        have HX := Lib.hid (HS.out (by unfold badD; rw [decide_eq_false b0, decide_eq_false b1]; rfl))
        go_wp2
        go_round
        case rel => exact ⟨k + 1, by omega, by go_num, HX.out⟩
        case measure => simp [intOf]; try omega
      · obtain rfl : k = n := by omega
        have hv : V = true := by rw [← HV.out, any_take (fun j hj => HN.out j (by rw [HL.out] at hj; omega))]; rfl
        subst hv
        go_wp2
        go_ret
        exact ⟨rfl, HB.out⟩

set_option maxHeartbeats 1000000 in
set_option maxRecDepth 100000 in
/-- Same at two records that read the same: true. -/
theorem Same_ser {A A' : Option Addr} {n c n' c' : Nat} {ds : List Int} (f st : Int) (w : World) (h : Ints w A n c ds) (h' : Ints w A' n' c' ds) :
    Calls Try.prog 31 #[serA f st A n c, serA f st A' n' c'] w fun e w' => e = .returned (.bool true) ∧ Below w.heap.size w w' := by
  have hcap := h.cap
  have hmax := h.max
  have hcap' := h'.cap
  have hmax' := h'.max
  obtain rfl : n = n' := by rw [← h.len, ← h'.len]
  have hne : ((n : Int) != (n : Int)) = false := by simp
  have hf : ((f : Int) != f) = false := by simp
  have hs : ((st : Int) != st) = false := by simp
  have S := (SBox.made w f st A n c).alloc (serO f st A' n c')
  have S' := SBox.made (w.alloc (serO f st A n c)) f st A' n c'
  rw [World.size_alloc] at S'
  obtain ⟨s0, s1, s2, sl⟩ := S
  obtain ⟨t0, t1, t2, tl⟩ := S'
  have H := Lib.hid ((h.alloc (serO f st A n c)).alloc (serO f st A' n c'))
  have H' := Lib.hid ((h'.alloc (serO f st A n c)).alloc (serO f st A' n c'))
  have HB := Lib.hid (((Below.refl w.heap.size w).alloc (Nat.le_refl _) (serO f st A n c)).alloc (by simp) (serO f st A' n c'))
  clear h h'
  go_enter Try.func31, Try.ntmps31
  go_wp2
  go_loopw [5] (fun i wr => ∃ k : Nat, k ≤ n ∧ i = .int .i64 k ∧ ∃ d, wr = ((w.alloc (serO f st A n c)).alloc (serO f st A' n c')).drewN d) (fun i _ => n - (intOf i).toNat)
  case atStart => exact ⟨0, Nat.zero_le _, rfl, 0, rfl⟩
  case round =>
    obtain ⟨k, hk, rfl, d, rfl⟩ := hrel
    by_cases hlt : k < n
    · obtain ⟨ad, rfl, hl, hc⟩ := H.out.at_ hlt
      obtain ⟨ad', rfl, hl', hc'⟩ := H'.out.at_ hlt
      have e5 : (k : Int) < n := by omega
      have e6 : (0 : Int) ≤ k := by omega
      generalize el ds k = x at *
      have hx : ((x : Int) != x) = false := by simp
      go_wp2
      go_quiet (fail)
      go_wp2
      go_roundw
      case rel => exact ⟨k + 1, by omega, by go_num, _, rfl⟩
      case measure => simp [intOf]; try omega
    · obtain rfl : k = n := by omega
      go_wp2
      go_ret
      exact ⟨rfl, below_drewN HB.out _⟩
end Go.Proofs.Ytchnfahgmceohaa
