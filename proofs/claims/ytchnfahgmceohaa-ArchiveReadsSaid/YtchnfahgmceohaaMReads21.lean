/- Decode of the program. -/
import Derived.Test.YtchnfahgmceohaaMReads16
import Derived.Test.YtchnfahgmceohaaMReads19
import Derived.Test.YtchnfahgmceohaaMReads20
import Derived.BigQuiet
import Derived.Deep.DeepCutAuto
import Derived.Test.YtchnfahgmceohaaMReads00
import Derived.Laws.AppendOwnNone
import Derived.Lib.AppendZeros
import Derived.WalkSpells
import Derived.Handy

namespace Go.Proofs.Ytchnfahgmceohaa
open Go.RowKit
set_option linter.unusedVariables false

/-- What Decode hands back. -/
def RetD (V : List SerD × Int) (w : World) (e : Ending) (w' : World) : Prop :=
  ∃ A n c, e = .returned (.tuple #[.slice A n c, .int .i64 V.2]) ∧ Sers w' A n c V.1 ∧ Below w.heap.size w w'
theorem RetD.none_ {w w' : World} {x : Int} (hb : Below w.heap.size w w') : RetD ([], x) w (.returned (.tuple #[.slice none 0 0, .int .i64 x])) w' := ⟨none, 0, 0, rfl, Sers.nil _, hb⟩

def lenAt (w : World) (p : Nat) : Nat := match w.cell? ⟨p, 0, none⟩ with | some (.slice _ n _) => n | _ => 0
theorem Rd.lenAt {w : World} {p q : Nat} {bs : List Int} (h : Rd w p q bs) : lenAt w p = bs.length := by
  obtain ⟨A, n, c, hc, hb, _⟩ := h.r
  unfold Go.Proofs.Ytchnfahgmceohaa.lenAt
  rw [hc.c, hb.len]

/-- The state behind a record's bytes: the rest in the reader, the four bytes of the sum, the payload, the records so far. -/
structure DecC (w : World) (p : Nat) (wx : World) (A4 : Option Addr) (c4 : Nat) (ck : List Int) (Ap : Option Addr) (cp : Nat) (P rest : List Int) (v : Value) (out : List SerD) : Prop where
  r : Rd wx p w.heap.size rest
  k : Byts wx A4 4 c4 ck
  y : Byts wx Ap P.length cp P
  o : OwnS wx (p + 1) v out
  b : Below w.heap.size w wx
  l : p < wx.heap.size

theorem Rd.below' {w w' : World} {p q B : Nat} {bs : List Int} (h : Rd w p q bs) (hb : Below B w w') (hp : p < B) (hq : q ≤ B) : Rd w' p q bs := by
  obtain ⟨A, n, c, hc, hby, hA⟩ := h.r
  exact ⟨⟨A, n, c, hc.below hb hp, hby.keep hb.size fun ad j e _ => hb.cell (p := ad.add j) (by rw [block_of_add]; have := hA ad e; omega), hA⟩⟩
set_option maxRecDepth 100000 in
set_option maxHeartbeats 4000000 in
theorem Decode_calls {A : Option Addr} {n c : Nat} {bs : List Int} (w : World) (h : Byts w A n c bs) (hA : ∀ ad, A = some ad → ad.block < w.heap.size) :
    Calls Try.prog 17 #[.slice A n c] w (RetD (decL bs) w) := by
  have hl := h.len
  have hcap := h.cap
  have hmax := h.max
  obtain ⟨V, hV⟩ : ∃ V, decL bs = V := ⟨_, rfl⟩
  rw [hV]
  unfold decL at hV
  by_cases hbig : 1048576 < (n : Int)
  · rw [if_pos (by omega)] at hV
    subst hV
    clear h hA hl
    go_enter Try.func17, Try.ntmps17
    go_wp2
    go_returns
    exact RetD.none_ (Below.refl _ _)
  · rw [if_neg (by omega)] at hV
    have hd := head_calls w
    have HD := Lib.hid hd
    have H := Lib.hid h
    by_cases hpre : bs.take 3 = [82, 65, 1]
    · rw [if_neg (by simp [hpre])] at hV
      have HV := Lib.hid hV
      clear hd h hV
      go_enter Try.func17, Try.ntmps17
      go_wp2_with fail
      refine (HD.out).mono ?_
      rintro e w1 ⟨v, rfl, ho, hb⟩
      obtain ⟨A3, n3, c3, rfl, hi3, -⟩ := ho.ints
      obtain rfl : n3 = 3 := hi3.len.symm
      have cp := cutPrefix_calls w1 (H.out.below hb) hi3 hpre
      have CP := Lib.hid cp
      have HB := Lib.hid hb
      clear cp ho hi3 hb
      go_wp2_with fail
      refine (CP.out).mono ?_
      rintro e w2 ⟨rfl, A1, n1, c1, rfl, hi1, hA1⟩
      have hA2 : ∀ a, A1 = some a → a.block < w.heap.size := fun a e => by
        obtain ⟨a0, e0, hb⟩ := hA1 a e
        rw [hb]; exact hA a0 e0
      have hsz : w.heap.size ≤ w2.heap.size := HB.out.size
      have hba : Below w2.heap.size w2 (w2.alloc (.cells #[.slice A1 n1 c1] 73)) := (Below.refl _ _).alloc (Nat.le_refl _) _
      have HR0 : Hid (Rd (w2.alloc (.cells #[.slice A1 n1 c1] 73)) w2.heap.size w.heap.size (bs.drop 3)) := Lib.hid ⟨A1, n1, c1, Cel.made w2 _ _, hi1.below hba, hA2⟩
      have HB0 := Lib.hid (HB.out.trans (hba.mono hsz))
      clear hba hA1 hA2 hi1 hpre
      go_wp2
      go_loopw [6] (fun ov wr => ∃ (fu : Nat) (rest : List Int) (out : List SerD), OwnS wr (w2.heap.size + 1) ov out ∧ Rd wr w2.heap.size w.heap.size rest ∧ rest.length ≤ fu ∧ rest.length ≤ bs.length ∧ Hid (decGo fu rest out = V) ∧ Below w.heap.size w wr ∧ w2.heap.size < wr.heap.size) (fun _ wr => lenAt wr w2.heap.size)
      case atStart => exact ⟨bs.length, bs.drop 3, [], OwnS.nil _ _, HR0.out, by rw [List.length_drop]; omega, by rw [List.length_drop]; omega, HV, HB0.out, by simp⟩
      case round =>
        obtain ⟨fu, rest, out, ho, hr, hfu, hrl, hg, hbe, hP⟩ := hrel
        have hln := hr.lenAt
        generalize wr = wo at *
        obtain ⟨A5, n5, c5, rfl, hs5, hB5⟩ := ho.sers
        obtain rfl : n5 = out.length := hs5.len.symm
        have HS5 := Lib.hid hs5
        have hfew := ho.few
        have HO := Lib.hid ho
        have HR := Lib.hid hr
        have HBE := Lib.hid hbe
        obtain ⟨Ar, nr, cr, ⟨rc, rf, rl⟩, hby, hAr⟩ := hr.r
        obtain rfl : nr = rest.length := hby.len.symm
        have hrcap := hby.cap
        have hrmax := hby.max
        clear ho hbe hby hAr hs5
        by_cases h0 : 0 < (rest.length : Int)
        · obtain ⟨fu, rfl⟩ : ∃ k, fu = k + 1 := ⟨fu - 1, by omega⟩
          have hg1 := hg.out
          rw [decGo, if_neg (by omega)] at hg1
          by_cases hfull : out.length = 1000
          · rw [if_pos hfull] at hg1
            subst hg1
            have hfi : ((out.length : Int) == 1000) = true := by simp [hfull]
            clear hfull
            go_wp2
            go_returns
            exact RetD.none_ HBE.out
          · rw [if_neg hfull] at hg1
            have hfi : ((out.length : Int) == 1000) = false := by simp; omega
            have nc := number_calls w2.heap.size w.heap.size rest wo HR.out hsz
            have hgl := getN_lt rest
            have hge := getN_err rest
            have hgr := getN_rest rest
            unfold NumP at nc
            generalize getN rest = G at *
            obtain ⟨x, er, rs⟩ := G
            dsimp only at hgl hge hgr hg1 nc
            obtain ⟨kr, hkr, hrs⟩ := hgr
            have hrsl : rs.length ≤ rest.length := by rw [hrs, List.length_drop]; omega
            have NC := Lib.hid nc
            clear nc hg hkr hrs
            go_wp2_with fail
            refine (NC.out).mono ?_
            rintro e w3 ⟨rfl, hr3, hg3⟩
            have HO3 := HO.out
            have HR3 := Lib.hid hr3
            have hP3 : w2.heap.size < w3.heap.size := Nat.lt_of_lt_of_le hP hg3.size
            have HB3 := Lib.hid (HBE.out.trans (Below.of_num hg3 hsz hP))
            have HG3 := Lib.hid hg3
            obtain ⟨Ap, np, cpp, ⟨pc, pf, pl⟩, hbp, hAp⟩ := hr3.r
            obtain rfl : np = rs.length := hbp.len.symm
            have hpcap := hbp.cap
            have hpmax := hbp.max
            have HBP := Lib.hid hbp
            clear hr3 hg3 hbp
            by_cases her : er = 0
            · subst her
              rw [if_neg (by simp)] at hg1
              clear hge
              by_cases hx : (rs.length : Int) - 4 < (x : Int)
              · rw [if_pos hx] at hg1
                subst hg1
                go_wp2
                go_returns
                exact RetD.none_ HB3.out
              · rw [if_neg hx] at hg1
                have HG1 := Lib.hid hg1
                have hx4 : x + 4 ≤ rs.length := by omega
                have hcx : ¬ cpp = x := by omega
                obtain ⟨ap, rfl, hapl, -⟩ := HBP.out.at_ (show 0 < rs.length by omega)
                have hby1 := HBP.out.take (show x ≤ rs.length by omega)
                have hdr1 := HBP.out.drop (show x ≤ rs.length by omega)
                rw [if_neg hcx] at hdr1
                have hck := hdr1.take (show 4 ≤ rs.length - x by omega)
                have HP1 := Lib.hid hby1
                have HCK := Lib.hid hck
                clear hg1 HO3 hby1 hdr1 hck HS5
                obtain ⟨X4, hX4⟩ : ∃ X4, x + 4 = X4 := ⟨_, rfl⟩
                have e4 : (x : Int) + 4 = (X4 : Int) := by omega
                have hx44 : X4 - x = 4 := by omega
                have hxX : x ≤ X4 := by omega
                rw [hX4] at hx4
                go_wp2
                go_quiet (fail)
                have hdr2 := HBP.out.drop hx4
                obtain ⟨A6, n6, c6, hcase⟩ : ∃ A6 n6 c6, (cpp = X4 ∧ rs.length = X4 ∧ A6 = some ap ∧ n6 = 0 ∧ c6 = 0) ∨ (¬ cpp = X4 ∧ A6 = some (ap.add X4) ∧ n6 = rs.length - X4 ∧ c6 = cpp - X4) := by
                  by_cases hck : cpp = X4
                  · exact ⟨_, _, _, .inl ⟨hck, by omega, rfl, rfl, rfl⟩⟩
                  · exact ⟨_, _, _, .inr ⟨hck, rfl, rfl, rfl⟩⟩
                have hby6 : Byts w3 A6 n6 c6 (rs.drop X4) := by
                  rcases hcase with ⟨h, hn, rfl, rfl, rfl⟩ | ⟨h, rfl, rfl, rfl⟩
                  · rw [if_pos h, show cpp - X4 = 0 by omega, show rs.length - X4 = 0 by omega] at hdr2; exact hdr2
                  · rw [if_neg h] at hdr2; exact hdr2
                have h0 := hAp ap rfl
                have hap6 : ∀ a, A6 = some a → a.block < w.heap.size := by
                  intro a e
                  rcases hcase with ⟨_, _, h, _⟩ | ⟨_, h, _⟩
                  · rw [h] at e; injection e with e; rw [← e]; exact h0
                  · rw [h] at e; injection e with e; rw [← e, block_of_add]; exact h0
                clear hdr2
                obtain ⟨W4, hW4⟩ : ∃ W4, (w3.drewN nq).setCell ⟨w2.heap.size, 0, none⟩ (.slice A6 n6 c6) = W4 := ⟨_, rfl⟩
                have hgr : (w3.drewN nq).grownBy W4 (some w2.heap.size) := by
                  rw [← hW4]
                  exact ⟨rfl, rfl, rfl, by simp [World.setCell], fun i hi hne => Below.heap_setCell _ _ _ i (by intro e; exact hne (by rw [e]))⟩
                have hD : DecC w w2.heap.size W4 (some (ap.add x)) (cpp - x) ((rs.drop x).take 4) (some ap) cpp (rs.take x) (rs.drop X4) (.slice A5 out.length c5) out := by
                  have hne : ∀ ad : Addr, ad.block = ap.block → ad.block ≠ w2.heap.size := fun ad e => by omega
                  refine ⟨?_, ?_, ?_, ?_, (below_drewN HB3.out nq).trans (Below.of_num hgr hsz hP3), Nat.lt_of_lt_of_le hP3 hgr.size⟩
                  · refine ⟨⟨A6, n6, c6, ?_, ?_, hap6⟩⟩
                    · rw [← hW4]; exact (Cel.mk (w := w3.drewN nq) pc pf pl).set_slice
                    · rw [← hW4]
                      exact (hby6.drewN nq).far (p := ⟨w2.heap.size, 0, none⟩) (fun ad e => by have := hap6 ad e; show ad.block ≠ w2.heap.size; omega) _
                  · rw [← hW4]
                    exact (HCK.out.drewN nq).far (p := ⟨w2.heap.size, 0, none⟩) (fun ad e => by injection e with e; rw [← e, block_of_add]; show ap.block ≠ w2.heap.size; omega) _
                  · rw [← hW4]
                    refine Byts.far (p := ⟨w2.heap.size, 0, none⟩) ?_ (fun ad e => by injection e with e; rw [← e]; show ap.block ≠ w2.heap.size; omega) _
                    have h5 := HP1.out.drewN nq
                    have h6 : (rs.take x).length = x := by rw [List.length_take]; omega
                    rw [h6]; exact h5
                  · exact ((HO.out.grown HG3.out (by omega)).below (below_drewN (Below.refl _ _) nq)).grown hgr (by omega)
                have HD4 := Lib.hid hD
                have hc0 : (w3.drewN nq).cell? ⟨w2.heap.size, 0, none⟩ = some (.slice (some ap) rs.length cpp) := pc
                have hf0 : (w3.drewN nq).frozen? ⟨w2.heap.size, 0, none⟩ = false := pf
                have HW4 := Lib.hid hW4
                have HG2 := Lib.hid (show (if ¬ val4 ((rs.drop x).take 4) = sumB (rs.take x) then ([], 18) else if ¬ (serL (rs.take x)).2 = 0 then ([], (serL (rs.take x)).2) else decGo fu (rs.drop X4) (out ++ [(serL (rs.take x)).1])) = V by rw [← hX4]; exact HG1.out)
                have hPl : (rs.take x).length = x := by rw [List.length_take]; omega
                have hcl : ((rs.drop x).take 4).length = 4 := by rw [List.length_take, List.length_drop]; omega
                have hrl2 : (rs.drop X4).length ≤ fu := by rw [List.length_drop]; omega
                have hrl3 : (rs.drop X4).length ≤ bs.length := by rw [List.length_drop]; omega
                have hrl4 : (rs.drop X4).length < rest.length := by rw [List.length_drop]; omega
                clear hD hW4 hgr hby6 hap6
                go_upto_region 17 with fail
                go_cut [] (fun wx => DecC w w2.heap.size wx (some (ap.add x)) (cpp - x) ((rs.drop x).take 4) (some ap) cpp (rs.take x) (rs.drop X4) (.slice A5 out.length c5) out)
                case first =>
                  as_aux_lemma =>
                    clear HG2 HG1 HD HB HR0 HB0 H CP
                    rcases hcase with ⟨rfl, hrl7, rfl, rfl, rfl⟩ | ⟨hck, rfl, rfl, rfl⟩
                    · have e70 : rs.length - cpp = 0 := by omega
                      go_wp2_with fail
                      go_meet
                      have e := HW4.out
                      subst e
                      exact HD4.out
                    · go_wp2_with fail
                      go_meet
                      have e := HW4.out
                      subst e
                      exact HD4.out
                case rest =>
                  clear HG1 HD HB HR0 HB0 H CP hcase HW4 HD4 hc0 hf0 HP1 HCK HBP HO HR pc pf pl h0 HG3 HB3 HR3 rc rf rl NC
                  obtain ⟨dr, dk, dy, dO, db, dl⟩ := hcut
                  generalize (rs.drop x).take 4 = ck at *
                  generalize rs.take x = P at *
                  generalize rs.drop X4 = R at *
                  generalize some (ap.add x) = A4 at *
                  generalize cpp - x = c4 at *
                  have hv4 : Hid ((valTo ck 4 : Int) = val4 ck) := Lib.hid (valTo_four dk.rngD)
                  have hvl : Hid (∀ k, valTo ck k < 256 ^ k) := Lib.hid (valTo_lt dk.rngD)
                  rw [hPl] at dy
                  have hAp1 : ∀ ad : Addr, some ap = some ad → ad.block < w.heap.size := fun ad e => hAp ad e
                  have hap := dy.cap
                  have ham := dy.max
                  have hkc := dk.cap
                  have hkm := dk.max
                  have DR := Lib.hid dr
                  have DK := Lib.hid dk
                  have DY := Lib.hid dy
                  have DO := Lib.hid dO
                  have DB := Lib.hid db
                  clear hAp dr dk dy dO db hPl hcl hX4 hx44 e4 hxX hx hx4 hgl hpcap hpmax hapl hcx hrsl hrl hfu hrcap hrmax hcap hmax hl
                  as_aux_lemma =>
                    go_wp2
                    go_loop [12, 81] (fun f i => ∃ k : Nat, k ≤ 4 ∧ f = .int .u32 (valTo ck k : Nat) ∧ i = .int .i64 k) (fun _ i => 4 - (intOf i).toNat)
                    case atStart => exact ⟨0, by omega, rfl, rfl⟩
                    case round =>
                      obtain ⟨k, hk, rfl, rfl⟩ := hrel
                      by_cases hk4 : k < 4
                      · clear HG2
                        obtain ⟨ac, rfl, -, hcc⟩ := DK.out.at_ hk4
                        have hrg := DK.out.rngD k
                        have hv0 := hvl.out k
                        have hv1 : (valTo ck k : Int) < 16777216 := by
                          have : 256 ^ k ≤ 256 ^ 3 := Nat.pow_le_pow_right (by decide) (by omega)
                          have : (256 : Nat) ^ 3 = 16777216 := by decide
                          omega
                        have hvs : valTo ck (k + 1) = 256 * valTo ck k + (el ck k).toNat := rfl
                        clear hv0
                        obtain ⟨Y1, hY1⟩ : ∃ Y, valTo ck (k + 1) = Y := ⟨_, rfl⟩
                        have HY := Lib.hid hY1
                        rw [hY1] at hvs
                        clear hY1
                        generalize valTo ck k = Y0 at *
                        generalize el ck k = d at *
                        obtain ⟨D, rfl⟩ := Int.eq_ofNat_of_zero_le hrg.1
                        have ho := or8 Y0 D (by omega) (by omega)
                        obtain ⟨Z, hZ⟩ : ∃ Z, 256 * Y0 = Z := ⟨_, rfl⟩
                        rw [hZ] at ho
                        have hZY : Z + D = Y1 := by rw [hvs, hZ]; simp
                        rw [hZY] at ho
                        have z1 : (Y0 : Int) * 256 = (Z : Int) := by omega
                        have z2 : (Y0 : Int) * 2 ^ 8 = (Z : Int) := by omega
                        have zl : (Z : Int) < 4294967296 := by omega
                        obtain ⟨hr0, hr1⟩ := hrg
                        have w1 : IntKind.u32.wrap (Z : Int) = (Z : Int) := IntWalk.u32_in _ (by omega)
                        have w2 : IntKind.u32.wrap (D : Int) = (D : Int) := IntWalk.u32_in _ (by omega)
                        clear hvs hZ hr0 hr1 hZY zl hv1
                        go_wp2
                        go_round
                        case rel => exact ⟨k + 1, by omega, by rw [HY.out], by go_num⟩
                        case measure => simp [intOf]; try omega
                      · obtain rfl : k = 4 := by omega
                        have hg2 := HG2.out
                        have hFv := hv4.out
                        generalize valTo ck 4 = F at *
                        have sc := sum_calls wc DY.out
                        have sr := series_calls wc DY.out (fun ad e => by
                          have h1 := hAp1 ad e
                          have h2 := DB.out.size
                          omega)
                        have DL := Lib.hid dl
                        clear hk hk4 hvl HG2 hv4
                        by_cases hsum : val4 ck = sumB P
                        · rw [if_neg (by simp [hsum])] at hg2
                          rw [← hsum, ← hFv] at sc
                          have SC := Lib.hid sc
                          have SR := Lib.hid sr
                          have HG3 := Lib.hid hg2
                          clear sc sr hg2 hsum hFv
                          go_wp2_with fail
                          refine (SC.out).mono ?_
                          rintro e w5 ⟨rfl, rfl⟩
                          obtain ⟨⟨s, er2⟩, hSP⟩ : ∃ U, serL P = U := ⟨_, rfl⟩
                          rw [hSP] at SR HG3
                          clear hSP
                          go_wp2_with fail
                          refine (SR.out).mono ?_
                          rintro e w5 ⟨A7, n7, c7, rfl, hi7, hb7, hA7⟩
                          have hz7 : w2.heap.size < w5.heap.size := Nat.lt_of_lt_of_le DL.out hb7.size
                          have HO5 := Lib.hid (DO.out.below hb7)
                          have HB5 := Lib.hid (DB.out.trans (hb7.mono DB.out.size))
                          have HI7 := Lib.hid hi7
                          have HA7 := Lib.hid hA7
                          have HH7 := Lib.hid hb7
                          clear hi7 hA7 hb7
                          have hg3 := HG3.out
                          by_cases he2 : er2 = 0
                          · subst he2
                            rw [if_neg (by simp)] at hg3
                            have HG4 := Lib.hid hg3
                            clear hg3 HG3
                            have hba : Below w5.heap.size w5 (w5.alloc (serO s.f s.st A7 n7 c7)) := (Below.refl _ _).alloc (Nat.le_refl _) _
                            have HBA := Lib.hid hba
                            have HO6 := Lib.hid (HO5.out.below hba)
                            have HI8 := Lib.hid (HI7.out.below hba)
                            have hsz5 : w2.heap.size + 1 ≤ (w5.alloc (serO s.f s.st A7 n7 c7)).heap.size := by simp; omega
                            have HFR := Lib.hid (DO.out.fresh (by have := DL.out; omega) (A := A7) (n := n7) HA7.out)
                            clear hba
                            go_wp2_with (at_builtin; go_loud (refine wpList_append_ser (w5.alloc (serO s.f s.st A7 n7 c7)) (w2.heap.size + 1) _ out A7 n7 c7 s rfl _ _ rfl rfl (by rw [World.size_alloc]; rfl) HO6.out HI8.out HFR.out hsz5 (by omega) ?_))
                            rintro v8 w8 ho8 hb8
                            go_wp2
                            have r8 := ((DR.out.below' HH7.out (by have := DL.out; omega) (by have := DB.out.size; omega)).below' HBA.out (by omega) (by have := HB5.out.size; omega)).below' hb8 (by omega) (by omega)
                            have b8 := (HB5.out.trans (HBA.out.mono HB5.out.size)).trans (hb8.mono (by omega))
                            have l8 : w2.heap.size < w8.heap.size := by
                              have := hb8.size
                              omega
                            have m8 := r8.lenAt
                            go_roundw
                            case rel => exact ⟨fu, R, out ++ [s], ho8, r8, hrl2, hrl3, HG4, b8, l8⟩
                            case measure => omega
                          · rw [if_pos he2] at hg3
                            subst hg3
                            have heq : (er2 == 0) = false := by simp [he2]
                            go_wp2
                            go_returns
                            exact RetD.none_ (HB5.out.alloc (by have := HB5.out.size; omega) _)
                        · rw [if_pos hsum] at hg2
                          subst hg2
                          rw [← hFv] at hsum
                          generalize sumB P = S at *
                          have hq : ((F : Int) == S) = false := by simp [hsum]
                          have hq2 : ((F : Int) != S) = true := by simp [hsum]
                          have SC := Lib.hid sc
                          clear sc sr hFv hsum
                          go_wp2_with fail
                          refine (SC.out).mono ?_
                          rintro e w5 ⟨rfl, rfl⟩
                          go_wp2
                          go_returns
                          exact RetD.none_ DB.out
            · rw [if_pos her] at hg1
              subst hg1
              have heq : (er == 0) = false := by simp [her]
              have her' : 0 < er := by omega
              go_wp2
              go_returns
              exact RetD.none_ HB3.out
        · have hr0 : rest = [] := List.eq_nil_of_length_eq_zero (by omega)
          have hg1 := hg.out
          rw [hr0, decGo_nil] at hg1
          subst hg1
          clear hr0
          go_wp2
          go_returns
          exact ⟨_, _, _, rfl, HS5.out, HBE.out⟩
    · rw [if_pos hpre] at hV
      subst hV
      clear hd h
      go_enter Try.func17, Try.ntmps17
      go_wp2_with fail
      refine (HD.out).mono ?_
      rintro e w1 ⟨v, rfl, ho, hb⟩
      obtain ⟨A3, n3, c3, rfl, hi3, -⟩ := ho.ints
      obtain rfl : n3 = 3 := hi3.len.symm
      have cp := cutPrefix_no w1 (H.out.below hb) hi3 hpre
      have CP := Lib.hid cp
      have HB := Lib.hid hb
      clear cp ho hi3 hb
      go_wp2_with fail
      refine (CP.out).mono ?_
      rintro e w2 ⟨rfl, rfl⟩
      go_wp2
      go_returns
      exact RetD.none_ HB.out
end Go.Proofs.Ytchnfahgmceohaa

/- The append of a whole list onto a list of the call's own; slices.Clone. -/
namespace Go.Proofs.Ytchnfahgmceohaa
open Go.RowKit
set_option linter.unusedVariables false

theorem Cells_append (zs ys : List Int) : Cells (zs ++ ys) = Cells zs ++ Cells ys := by simp [Cells]
set_option maxRecDepth 100000 in
theorem wpList_append_ints {ops : Array Oper} {rest : List Oper} {o : Oper} {a : Act} {Q : Exit → Act → World → Prop} (w : World) (B : Nat) (v : Value) (zs : List Int) (A : Option Addr) (m c : Nat) (ys : List Int)
    (hgd : o.guard = none) (s y : Operand) (ho : o.op = .call { callee := .builtin .append, args := #[s, y], argTypes := #[34, 34] })
    (hs : a.eval s = v) (hx : a.eval y = .slice A m c) (hown : Own w B v zs) (hB : B ≤ w.heap.size) (hi : Ints w A m c ys) (hf : zs.length + ys.length ≤ 17592186044416)
    (h : ∀ v' w', Own w' B v' (zs ++ ys) → Below B w w' → wpList Try.prog ops Q rest (a.put o.dst v') w') : wpList Try.prog ops Q (o :: rest) a w := by
  obtain ⟨i0, hi0, hz0, hz1, hz2⟩ := info_parts info_int
  cases A with
  | none =>
    have hc := hi.nl rfl
    have hm : m = 0 := by have := hi.cap; omega
    subst hc hm
    have hy : ys = [] := List.eq_nil_of_length_eq_zero hi.len
    subst hy
    refine wpList_append_own_none hgd s y 34 ho B 3 i0 1 Try.underlying34 hi0 v zs.length (Cells zs) hs hown.row hx (h v w (by rw [List.append_nil]; exact hown) (Below.refl _ _))
  | some ad =>
    refine wpList_append_own w hgd s y 34 ho B 3 i0 (.int .i64 0) 1 8 Try.underlying34 hi0 hz0 hz1 hz2 rfl (by decide) v zs.length (Cells zs) hs hown.row ad m c (Cells ys) hx (by rw [Cells_length, hi.len, Nat.mul_one]) ?_ ?_ ?_ ?_ hB ?_
    · intro j u hj
      have hjl : j < ys.length := by
        have := (List.getElem?_eq_some_iff.1 hj).1
        rwa [Cells_length] at this
      rw [Cells_get ys j hjl] at hj
      injection hj with hj
      subst hj
      obtain ⟨ad', e, _, hc⟩ := hi.mem (by rw [← hi.len]; omega)
      injection e with e
      subst e
      exact hc j (by rw [← hi.len]; exact hjl)
    · intro u hu
      obtain ⟨z, _, rfl⟩ := List.mem_map.1 hu
      rfl
    · have := hi.len; unfold maxLen; omega
    · have := hi.len; omega
    · intro v' w' ho' hg _
      refine h v' w' ⟨?_, ?_, ?_⟩ ?_
      · rw [Cells_append, List.length_append, hi.len]; exact ho'
      · intro z hz
        rcases List.mem_append.1 hz with hz | hz
        · exact hown.rng z hz
        · exact hi.rng z hz
      · rw [List.length_append]; exact hf
      · exact (Below.refl B w).grown hg hB (fun k hk => (hown.row.lt k hk).1)

theorem Own.empty (w : World) (B : Nat) (hB : B ≤ w.heap.size) : Own (w.alloc (.cells #[] 3)) B (.slice (some ⟨w.heap.size, 0, none⟩) 0 0) [] :=
  ⟨World.ownsRow_made w _ 0 hB (by unfold maxLen; omega) rfl, by simp, by simp⟩

set_option maxRecDepth 100000 in
set_option maxHeartbeats 600000 in
theorem Clone_calls {A : Option Addr} {n c : Nat} {zs : List Int} (w : World) (h : Ints w A n c zs) :
    Calls Try.prog 55 #[.slice A n c] w fun e w' => ∃ v, e = .returned v ∧ Own w' w.heap.size v zs ∧ Below w.heap.size w w' := by
  have H := Lib.hid h
  have hfew := h.few
  have HL := Lib.hid h.len
  cases A with
  | none =>
    obtain rfl := h.nl rfl
    obtain rfl : n = 0 := by have := h.cap; omega
    have hz : zs = [] := List.eq_nil_of_length_eq_zero h.len
    subst hz
    have he := fun w => Lib.run_eql_slice_nil (P := Try.prog) w 34 3 none 0 0 0 0 Try.underlying34
    clear h
    go_enter Try.func55, Try.ntmps55
    go_wp2
    go_ret
    exact ⟨_, rfl, Own.nil _ _, Below.refl _ _⟩
  | some ad =>
    have he := fun w => Lib.run_eql_slice_nil (P := Try.prog) w 34 3 (some ad) n c 0 0 Try.underlying34
    clear h
    have HO := Lib.hid (Own.empty w w.heap.size (Nat.le_refl _))
    have HI := Lib.hid (H.out.alloc (.cells #[] 3))
    go_enter Try.func55, Try.ntmps55
    go_wp2_with (at_builtin; refine wpList_append_ints _ w.heap.size _ [] (some ad) n c zs rfl _ _ rfl rfl rfl HO.out (by simp) HI.out (by rw [HL.out]; simp; omega) ?_)
    intro v' w' ho hb
    have R := Lib.hid ho
    have RB := Lib.hid (((Below.refl w.heap.size w).alloc (Nat.le_refl _) (.cells #[] 3)).trans hb)
    clear ho hb
    go_wp2
    go_ret
    exact ⟨_, rfl, R.out, RB.out⟩

end Go.Proofs.Ytchnfahgmceohaa
