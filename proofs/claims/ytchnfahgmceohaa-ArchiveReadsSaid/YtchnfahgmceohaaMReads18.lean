/- The closure of Unpack. -/
import Derived.Test.YtchnfahgmceohaaMReads17

namespace Go.Proofs.Ytchnfahgmceohaa
open Go.RowKit
set_option linter.unusedVariables false

/-- From w to w' no block up to p was written but g. -/
structure Ky (g p : Nat) (w w' : World) : Prop where
  os : w'.os = w.os
  tape : w'.tape = w.tape
  output : w'.output = w.output
  size : w.heap.size ≤ w'.heap.size
  block : ∀ k, k ≤ p → k ≠ g → w'.heap[k]? = w.heap[k]?
theorem Ky.refl (g p : Nat) (w : World) : Ky g p w w := ⟨rfl, rfl, rfl, Nat.le_refl _, fun _ _ _ => rfl⟩
theorem Ky.trans {g p : Nat} {a b c : World} (h : Ky g p a b) (k : Ky g p b c) : Ky g p a c :=
  ⟨k.os.trans h.os, k.tape.trans h.tape, k.output.trans h.output, Nat.le_trans h.size k.size, fun i hi hne => (k.block i hi hne).trans (h.block i hi hne)⟩
theorem Ky.of_below {g p : Nat} {w w' : World} (h : Below (p + 1) w w') : Ky g p w w' := ⟨h.os, h.tape, h.output, h.size, fun k hk _ => h.block k (by omega)⟩
theorem Ky.set {g p : Nat} {a w : World} (h : Ky g p a w) (u : Value) : Ky g p a (w.setCell ⟨g, 0, none⟩ u) :=
  h.trans ⟨rfl, rfl, rfl, by simp [World.setCell], fun k _ hne => Below.heap_setCell _ _ _ _ hne⟩
theorem Ky.below {g p : Nat} {w w' : World} (h : Ky g p w w') (hg : g ≤ p) : Below g w w' := ⟨h.os, h.tape, h.output, h.size, fun k hk => h.block k (by omega) (by omega)⟩
/-- What the closure keeps: the integers so far. -/
structure JU (g p : Nat) (w : World) (out : List Int) : Prop where
  o : ∃ v, Cel w g v ∧ Own w (p + 1) v out
theorem Own.slice {w : World} {B : Nat} {v : Value} {zs : List Int} (h : Own w B v zs) : ∃ A c, v = .slice A zs.length c := by
  obtain ⟨A, n, c, rfl, hi, _⟩ := h.ints
  exact ⟨A, c, by rw [hi.len]⟩
theorem JU.num {g p : Nat} {w w' : World} {out : List Int} (h : JU g p w out) (hg : g < p) (hw : w.grownBy w' (some p)) : JU g p w' out := by
  obtain ⟨v, ⟨c, f, l⟩, o⟩ := h.o
  have hb : Below (g + 1) w w' := ⟨hw.os, hw.tape, hw.output, hw.size, fun k hk => hw.block k (by omega) (by intro e; injection e with e; omega)⟩
  exact ⟨v, (Cel.mk c f l).below hb (by omega), ⟨o.row.kept (row := some p) hw (by
    rcases hv : v.ownBlock with _ | k
    · exact .inl rfl
    · refine .inr ?_
      intro e
      have := (o.row.lt k hv).1
      injection e with e
      omega), o.rng, o.few⟩⟩

set_option maxRecDepth 100000 in
set_option maxHeartbeats 1000000 in
theorem unpack1_calls (g p : Nat) (out : List Int) (v : Int) (t : Nat) (w : World) (h : JU g p w out) (hg : g < p) (hp : p < w.heap.size) (hv : -9223372036854775808 ≤ v ∧ v ≤ 9223372036854775807) (ht : (t : Int) ≤ 1000000) (hl : out.length ≤ 1000000) :
    Calls Try.prog 51 #[.int .i64 v, .int .i64 t, .pointer (some ⟨g, 0, none⟩)] w fun e w' => e = .returned (.tuple #[]) ∧ JU g p w' (out ++ List.replicate t v) ∧ Ky g p w w' := by
  have H := Lib.hid h
  clear h
  go_enter Try.func51, Try.ntmps51
  go_wp2
  go_loopw [6] (fun i wr => ∃ k : Nat, k ≤ t ∧ i = .int .i64 k ∧ JU g p wr (out ++ List.replicate k v) ∧ Ky g p w wr) (fun i _ => t - (intOf i).toNat)
  case atStart => exact ⟨0, Nat.zero_le _, rfl, by rw [List.replicate_zero, List.append_nil]; exact H.out, Ky.refl _ _ _⟩
  case round =>
    obtain ⟨k, hk, rfl, hj, hky⟩ := hrel
    have HK := Lib.hid hky
    have hsz : p + 1 ≤ wr.heap.size := Nat.le_trans hp hky.size
    clear hky
    by_cases hlt : k < t
    · obtain ⟨cv, ⟨cc, cf, cl⟩, ho⟩ := hj.o
      obtain ⟨A, c, rfl⟩ := ho.slice
      obtain ⟨N, hN⟩ : ∃ N, (out ++ List.replicate k v).length = N := ⟨_, rfl⟩
      have hNl : N ≤ 2000000 := by rw [← hN]; simp; omega
      rw [hN] at cc ho
      have HO := Lib.hid ho
      have HCL : Hid (Cel wr g (.slice A N c)) := Lib.hid ⟨cc, cf, cl⟩
      have HE : Hid (out ++ (List.replicate k v ++ [v]) = out ++ List.replicate (k + 1) v) := Lib.hid (by rw [← List.replicate_succ'])
      clear hj ho
      go_wp2_with (at_builtin; refine wpList_append_int wr (p + 1) _ (out ++ List.replicate k v) v rfl _ _ rfl rfl rfl HO.out hsz (by rw [hN]; omega) hv ?_)
      intro v' w1 ho1 hb1
      rw [HE.out] at ho1
      obtain ⟨A1, c1, rfl⟩ := ho1.slice
      have q1 := HCL.out.below hb1 (by omega)
      have q2 := Lib.hid (JU.mk ⟨_, q1.set_slice (A' := A1) (n' := (out ++ List.replicate (k + 1) v).length) (c' := c1), ho1.setCell (p := ⟨g, 0, none⟩) (show g < p + 1 by omega) _⟩)
      have q3 := Lib.hid ((HK.out.trans (Ky.of_below hb1)).set (.slice A1 (out ++ List.replicate (k + 1) v).length c1))
      obtain ⟨q1c, q1f, q1l⟩ := q1
      clear ho1 hb1
      generalize hL : out ++ List.replicate (k + 1) v = L at *
      generalize hM : L.length = M at *
      go_wp2
      go_roundw
      case rel => exact ⟨k + 1, by omega, by go_num, by rw [hL]; exact q2.out, q3.out⟩
      case measure => simp [intOf]; try omega
    · obtain rfl : k = t := by omega
      have HJ := Lib.hid hj
      clear hj
      go_wp2
      go_returns
      exact ⟨rfl, HJ.out, HK.out⟩
end Go.Proofs.Ytchnfahgmceohaa

/- reader.packed, with any of the two closures. -/
namespace Go.Proofs.Ytchnfahgmceohaa
open Go.RowKit
set_option linter.unusedVariables false

theorem Rd.ky {w w' : World} {p g q t : Nat} {bs : List Int} (h : Rd w p q bs) (hk : Ky g t w w') (hg : g ≠ p) (hpt : p ≤ t) (hq : q ≤ g) (hqp : q ≤ p) : Rd w' p q bs := by
  obtain ⟨A, n, c, ⟨cc, cf, cl⟩, hb, hA⟩ := h.r
  have e : ∀ k, k ≤ t → k ≠ g → w'.heap[k]? = w.heap[k]? := hk.block
  have hc : ∀ a : Addr, a.block ≤ t → a.block ≠ g → w'.cell? a = w.cell? a := fun a h1 h2 => by
    have := e a.block h1 h2
    unfold World.cell?
    rw [this]
  have hf : w'.frozen? ⟨p, 0, none⟩ = w.frozen? ⟨p, 0, none⟩ := by
    have := e p hpt (by omega)
    unfold World.frozen?
    rw [this]
  exact ⟨A, n, c, ⟨(hc _ hpt (by show p ≠ g; omega)).trans cc, hf.trans cf, Nat.lt_of_lt_of_le cl hk.size⟩,
    hb.keep hk.size (fun ad j he hj => by
      have h1 := hA ad he
      have h2 : (ad.add j).block = ad.block := by unfold Addr.add; split <;> rfl
      exact hc _ (by omega) (by omega)), hA⟩

/-- What a reading of packed integers leaves. -/
structure UnpP (J : World → List Int → Prop) (p q : Nat) (R : Int × List Int × List Int) (w : World) (e : Ending) (w' : World) : Prop where
  e : e = .returned (.int .i64 R.1)
  r : Rd w' p q R.2.2
  j : J w' R.2.1
  b : Below q w w'

theorem Below.of_num {w w' : World} {p g : Nat} (h : w.grownBy w' (some p)) (hg : g ≤ p) (hs : p < w.heap.size) : Below g w w' :=
  ⟨h.os, h.tape, h.output, h.size, fun k hk => h.block k (by omega) (by intro e; injection e with e; omega)⟩

set_option maxRecDepth 100000 in
set_option maxHeartbeats 4000000 in
theorem packed_calls (f p q g t : Nat) (J : World → List Int → Prop) (n : Nat) (bs : List Int) (w : World) (h : Rd w p q bs) (hj : J w []) (hn : n ≤ 10000) (hg : g ≠ p) (hpt : p ≤ t) (hgt : g ≤ t) (hq : q ≤ g) (hqp : q ≤ p) (hp : t < w.heap.size)
    (hf : f = 51 ∨ f = 67)
    (hJ : ∀ W W' out, J W out → W.grownBy W' (some p) → J W' out)
    (hcl : ∀ (W : World) (out : List Int) (v : Int) (tm : Nat), J W out → t < W.heap.size → (-9223372036854775808 ≤ v ∧ v ≤ 9223372036854775807) → (tm : Int) ≤ 1000000 → out.length ≤ 1000000 →
      Calls Try.prog f #[.int .i64 v, .int .i64 tm, .pointer (some ⟨g, 0, none⟩)] W fun e W' => e = .returned (.tuple #[]) ∧ J W' (out ++ List.replicate tm v) ∧ Ky g t W W') :
    Calls Try.prog 50 #[.pointer (some ⟨p, 0, none⟩), .int .i64 n, .func (.func f) #[] #[.pointer (some ⟨g, 0, none⟩)]] w (UnpP J p q (unpGo n n 0 false bs []) w) := by
  rcases hf with rfl | rfl
  all_goals (
    obtain ⟨R, hR⟩ : ∃ R, unpGo n n 0 false bs [] = R := ⟨_, rfl⟩
    have HR := Lib.hid hR
    rw [hR]
    have H := Lib.hid h
    have HJ0 := Lib.hid hj
    have HJ := Lib.hid hJ
    have HC := Lib.hid hcl
    clear h hj hJ hcl hR
    go_enter Try.func50, Try.ntmps50
    go_wp2
    go_loopw [1, 7, 8] (fun nn vv sv wr => ∃ (m fu : Nat) (v : Int) (st : Bool) (bs' out : List Int), nn = .int .i64 m ∧ vv = .int .i64 v ∧ sv = .bool st ∧ m ≤ fu ∧ Hid (unpGo fu m v st bs' out = R) ∧ (-1099511627776 ≤ v ∧ v ≤ 1099511627776) ∧ out.length + m = n ∧ Rd wr p q bs' ∧ J wr out ∧ Below q w wr) (fun nn _ _ _ => (intOf nn).toNat)
    case atStart => exact ⟨n, n, 0, false, bs, [], rfl, rfl, rfl, Nat.le_refl _, HR, by omega, by simp, H.out, HJ0.out, Below.refl _ _⟩
    case round =>
      obtain ⟨m, fu, v, st, bs', out, rfl, rfl, rfl, hmf, hu, hv, hol, hrd, hjo, hbe⟩ := hrel
      generalize wr = wo at *
      have hsz : t < wo.heap.size := Nat.lt_of_lt_of_le hp hbe.size
      have HBE := Lib.hid hbe
      have HRD := Lib.hid hrd
      have HJO := Lib.hid hjo
      clear hbe hrd hjo
      by_cases hm : 0 < m
      · obtain ⟨fu, rfl⟩ : ∃ k, fu = k + 1 := ⟨fu - 1, by omega⟩
        have nc := number_calls p q bs' wo HRD.out (by omega)
        have hgl := getN_lt bs'
        have hge := getN_err bs'
        unfold NumP at nc
        have hu1 := hu.out
        rw [unpGo, if_neg (by omega)] at hu1
        generalize getN bs' = G at *
        obtain ⟨x, er, rs⟩ := G
        simp only at hgl hge hu1 nc
        have NC := Lib.hid nc
        clear nc hu
        go_wp2_with fail
        refine (NC.out).mono ?_
        rintro e w1 ⟨rfl, hr1, hg1⟩
        have HR1 := Lib.hid hr1
        have HB1 := Lib.hid (HBE.out.trans (Below.of_num hg1 hqp (by omega)))
        have HJ1 := Lib.hid (HJ.out _ _ _ HJO.out hg1)
        have hsz1 : t < w1.heap.size := Nat.lt_of_lt_of_le hsz hg1.size
        clear hr1 hg1
        by_cases her : er = 0
        · subst her
          rw [if_neg (by simp)] at hu1
          clear hge
          by_cases hx : (x : Int) < 2
          · rw [if_pos (by omega)] at hu1
            have HU := Lib.hid hu1
            clear hu1
            go_wp2
            go_ret
            exact ⟨by rw [← HU.out]; rfl, by rw [← HU.out]; exact HR1.out, by rw [← HU.out]; exact HJ1.out, HB1.out⟩
          · rw [if_neg (by omega)] at hu1
            by_cases hev : x % 2 = 0
            · rw [if_pos hev] at hu1
              obtain ⟨tq, ht⟩ : ∃ tq, x / 2 = tq := ⟨_, rfl⟩
              rw [ht] at hu1
              have e0 : (x : Int).tmod 2 = 0 := by rw [Int.tmod_eq_emod_of_nonneg (by omega)]; omega
              have e1 : (x : Int) % 2 = 0 := by omega
              have e2 : (x : Int).tdiv 2 = (tq : Int) := by rw [Int.tdiv_eq_ediv_of_nonneg (by omega)]; omega
              have e3 : (x : Int) / 2 = (tq : Int) := by omega
              have ht1 : 1 ≤ tq := by omega
              clear ht hev
              by_cases hbad : m < tq ∨ st = true
              · rw [if_pos hbad] at hu1
                have HU := Lib.hid hu1
                clear hu1
                by_cases hmt : (m : Int) < (tq : Int)
                · go_wp2
                  go_ret
                  exact ⟨by rw [← HU.out]; rfl, by rw [← HU.out]; exact HR1.out, by rw [← HU.out]; exact HJ1.out, HB1.out⟩
                · obtain rfl : st = true := by rcases hbad with h | h; omega; exact h
                  go_wp2
                  go_ret
                  exact ⟨by rw [← HU.out]; rfl, by rw [← HU.out]; exact HR1.out, by rw [← HU.out]; exact HJ1.out, HB1.out⟩
              · rw [if_neg hbad] at hu1
                obtain rfl : st = false := by cases st; rfl; exact absurd (Or.inr rfl) hbad
                have hmt : ¬ (m : Int) < (tq : Int) := by intro h; exact hbad (.inl (by omega))
                have HU := Lib.hid hu1
                have cl := HC.out w1 out v tq HJ1.out hsz1 (by omega) (by omega) (by omega)
                have CL := Lib.hid cl
                have HRL : Hid ((out ++ List.replicate tq v).length + (m - tq) = n) := Lib.hid (by simp; omega)
                have e4 : (m : Int) - (tq : Int) = ((m - tq : Nat) : Int) := by omega
                clear hu1 cl hbad
                go_wp2_with fail
                refine (CL.out).mono ?_
                rintro e w2 ⟨rfl, hj2, hk2⟩
                have HR2 := Lib.hid (HR1.out.ky hk2 hg hpt hq hqp)
                have HB2 := Lib.hid (HB1.out.trans ((hk2.below hgt).mono hq))
                have HJ2 := Lib.hid hj2
                clear hk2 hj2
                go_wp2
                go_roundw
                case rel => exact ⟨m - tq, fu, v, true, rs, _, by first | rfl | rw [e4], rfl, rfl, by omega, HU, hv, HRL.out, HR2.out, HJ2.out, HB2.out⟩
                case measure => simp [intOf]; try omega
            · rw [if_neg hev] at hu1
              obtain ⟨tq, ht⟩ : ∃ tq, x / 2 = tq := ⟨_, rfl⟩
              rw [ht] at hu1
              have e0 : (x : Int).tmod 2 = 1 := by rw [Int.tmod_eq_emod_of_nonneg (by omega)]; omega
              have e1 : (x : Int) % 2 = 1 := by omega
              have e2 : (x : Int).tdiv 2 = (tq : Int) := by rw [Int.tdiv_eq_ediv_of_nonneg (by omega)]; omega
              have e3 : (x : Int) / 2 = (tq : Int) := by omega
              have uc := fun W => unfolded_calls tq W (by omega)
              have hul := unfoldN_le tq
              generalize unfoldN tq = u at *
              have UC := Lib.hid uc
              obtain ⟨v', hv'⟩ : ∃ v', v + u = v' := ⟨_, rfl⟩
              rw [hv'] at hu1
              obtain ⟨hul0, hul1⟩ := hul
              have htl : (tq : Int) ≤ 576460752303423488 := by omega
              have hvl : -1152921504606846976 ≤ v' ∧ v' ≤ 1152921504606846976 := by omega
              obtain ⟨hvl0, hvl1⟩ := hvl
              clear ht hev uc
              by_cases ho : outP v' = true
              · rw [if_pos ho] at hu1
                have HU := Lib.hid hu1
                clear hu1
                unfold outP at ho
                simp only [Bool.or_eq_true, decide_eq_true_eq] at ho
                by_cases hlo : v' < -1099511627776
                · go_wp2_with fail
                  refine (UC.out _).mono ?_
                  rintro e w2 ⟨rfl, rfl⟩
                  go_wp2
                  go_ret
                  exact ⟨by rw [← HU.out]; rfl, by rw [← HU.out]; exact HR1.out, by rw [← HU.out]; exact HJ1.out, HB1.out⟩
                · have hhi : 1099511627776 < v' := by omega
                  go_wp2_with fail
                  refine (UC.out _).mono ?_
                  rintro e w2 ⟨rfl, rfl⟩
                  go_wp2
                  go_ret
                  exact ⟨by rw [← HU.out]; rfl, by rw [← HU.out]; exact HR1.out, by rw [← HU.out]; exact HJ1.out, HB1.out⟩
              · rw [if_neg ho] at hu1
                have HU := Lib.hid hu1
                unfold outP at ho
                simp only [Bool.or_eq_true, decide_eq_true_eq, not_or] at ho
                obtain ⟨ho0, ho1⟩ := ho
                have cl := HC.out w1 out v' 1 HJ1.out hsz1 (by omega) (by omega) (by omega)
                have CL := Lib.hid cl
                have HRL : Hid ((out ++ [v']).length + (m - 1) = n) := Lib.hid (by simp; omega)
                have e4 : (m : Int) - 1 = ((m - 1 : Nat) : Int) := by omega
                clear hu1 cl
                go_wp2_with fail
                refine (UC.out _).mono ?_
                rintro e w2 ⟨rfl, rfl⟩
                go_wp2_with fail
                refine (CL.out).mono ?_
                rintro e w3 ⟨rfl, hj2, hk2⟩
                have HR2 := Lib.hid (HR1.out.ky hk2 hg hpt hq hqp)
                have HB2 := Lib.hid (HB1.out.trans ((hk2.below hgt).mono hq))
                have HJ2 := Lib.hid hj2
                clear hk2 hj2
                go_wp2
                go_roundw
                case rel => exact ⟨m - 1, fu, v', false, rs, _, by first | rfl | rw [e4], by first | rfl | rw [hv'], rfl, by omega, HU, by omega, HRL.out, HR2.out, HJ2.out, HB2.out⟩
                case measure => simp [intOf]; try omega
        · rw [if_pos her] at hu1
          have HU := Lib.hid hu1
          have heq : (er == 0) = false := by simp [her]
          have her' : 0 < er := by omega
          clear hu1
          go_wp2
          go_ret
          exact ⟨by rw [← HU.out]; rfl, by rw [← HU.out]; exact HR1.out, by rw [← HU.out]; exact HJ1.out, HB1.out⟩
      · obtain rfl : m = 0 := by omega
        have hu1 := hu.out
        rw [unpGo_zero] at hu1
        have HU := Lib.hid hu1
        clear hu hu1
        go_wp2
        go_ret
        exact ⟨by rw [← HU.out]; rfl, by rw [← HU.out]; exact HRD.out, by rw [← HU.out]; exact HJO.out, HBE.out⟩)
end Go.Proofs.Ytchnfahgmceohaa
