/- Check, Append, Read of the program. -/
import Derived.Test.YtchnfahgmceohaaWin
import Derived.Test.YtchnfahgmceohaaDecAny
import Derived.Test.YtchnfahgmceohaaClone
import Derived.Test.YtchnfahgmceohaaRec
import Derived.Deep.RegionWith
import Derived.Deep.RegionLaw
import Derived.Deep.AppendLies
namespace Go.Proofs.Ytchnfahgmceohaa
open Go.RowKit
set_option linter.unusedVariables false

set_option maxRecDepth 100000 in
set_option maxHeartbeats 1000000 in
theorem Check_calls {A : Option Addr} {n c : Nat} {bs : List Int} (w : World) (h : Byts w A n c bs) (hA : ∀ ad, A = some ad → ad.block < w.heap.size) :
    Calls Try.prog 33 #[.slice A n c] w fun e w' => e = .returned (.tuple #[.int .i64 ((decL bs).1.length : Nat), .int .i64 (decL bs).2]) ∧ Below w.heap.size w w' := by
  have dc := Decode_calls w h hA
  obtain ⟨⟨xs, er⟩, hV⟩ : ∃ V, decL bs = V := ⟨_, rfl⟩
  rw [hV] at dc ⊢
  have DC := Lib.hid dc
  clear dc h hA hV
  go_enter Try.func33, Try.ntmps33
  go_wp2_with fail
  refine (DC.out).mono ?_
  rintro e w1 ⟨A1, n1, c1, rfl, s1, b1⟩
  obtain rfl : n1 = xs.length := s1.len.symm
  have B1 := Lib.hid b1
  clear b1 s1
  go_wp2
  go_returns
  exact ⟨rfl, B1.out⟩

/-- At a step of a region that draws its order: bytes appended to own bytes. -/
theorem step_append_bytes {ops : Array Oper} {o : Oper} {a : Act} {K : Act → World → Prop} {Q : Exit → Act → World → Prop} {E : Prop} (w : World) (B : Nat) (v : Value) (zs : List Int) (A : Option Addr) (m c : Nat) (ys : List Int)
    (hgd : o.guard = none) (s y : Operand) (ho : o.op = .call { callee := .builtin .append, args := #[s, y], argTypes := #[25, 25] })
    (hs : a.eval s = v) (hx : a.eval y = .slice A m c) (hown : OwnB w B v zs) (hB : B ≤ w.heap.size) (hi : Byts w A m c ys) (hm : 0 < m) (hf : zs.length + ys.length ≤ 17592186044416)
    (h : ∀ v' w', OwnB w' B v' (zs ++ ys) → Below B w w' → K (a.put o.dst v') w') :
    if Region.wanted o (yielded ops a.tmps) = true then Oper.wp Try.prog o a w K Q else E := by
  obtain ⟨i0, hi0, hz0, hz1, hz2⟩ := info_parts info_byte
  have hw : Region.wanted o (yielded ops a.tmps) = true := by simp [Region.wanted, hgd]
  rw [if_pos hw]
  obtain ⟨ad, rfl, _, hc⟩ := hi.mem hm
  refine wp_append_own w s y 25 ho B 5 i0 (.int .u8 0) 1 1 Try.underlying25 hi0 hz0 hz1 hz2 rfl (by decide) v zs.length (BCells zs) hs hown.row ad m c (BCells ys) hx (by rw [BCells_length, hi.len, Nat.mul_one]) ?_ ?_ ?_ ?_ hB ?_
  · intro j u hj
    have hjl : j < ys.length := by
      have := (List.getElem?_eq_some_iff.1 hj).1
      rwa [BCells_length] at this
    rw [BCells_get ys j hjl] at hj
    obtain rfl := Option.some.inj hj
    exact hc j (by rw [← hi.len]; exact hjl)
  · intro u hu
    obtain ⟨z, _, rfl⟩ := List.mem_map.1 hu
    rfl
  · have := hi.len; unfold maxLen; omega
  · have := hi.len; omega
  · intro v' w' ho' hg _
    refine h v' w' ⟨?_, ?_, ?_⟩ ?_
    · rw [BCells_append, List.length_append, hi.len]; exact ho'
    · intro z hz
      rcases List.mem_append.1 hz with hz | hz
      · exact hown.rng z hz
      · exact hi.rng z hz
    · rw [List.length_append]; exact hf
    · exact (Below.refl B w).grown hg hB (fun k hk => (hown.row.lt k hk).1)

def appV (bs : List Int) (s : SerD) : List Int × Int :=
  if ¬ (decL bs).2 = 0 then ([], (decL bs).2)
  else if validS s.f s.st s.ds = false then ([], 1)
  else if (decL bs).1.length = 1000 ∨ 1048576 < bs.length + (recD s).length then ([], 4)
  else (bs ++ recD s, 0)

theorem decGo_few : ∀ (f : Nat) (bs : List Int) (out : List SerD), out.length ≤ 1000 → (decGo f bs out).1.length ≤ 1000
  | 0, _, _, h => by rw [decGo]; exact h
  | f + 1, bs, out, h => by
    rw [decGo]
    split
    · exact h
    · split
      · simp
      · split
        · simp
        · split
          · simp
          · split
            · simp
            · split
              · simp
              · exact decGo_few f _ _ (by simp; omega)
theorem decL_few (bs : List Int) : (decL bs).1.length ≤ 1000 := by
  unfold decL
  split
  · simp
  · split
    · simp
    · exact decGo_few _ _ _ (by simp)

set_option maxRecDepth 100000 in
set_option maxHeartbeats 4000000 in
theorem Append_any {A A1 : Option Addr} {n c n1 c1 : Nat} {bs : List Int} (s : SerD) (w : World) (h : Byts w A n c bs) (h1 : Ints w A1 n1 c1 s.ds) :
    Calls Try.prog 29 #[.slice A n c, serA s.f s.st A1 n1 c1] w (RetZ (appV bs s).1 (appV bs s).2 w) := by
  have hb0 : Below w.heap.size w (w.alloc (serO s.f s.st A1 n1 c1)) := (Below.refl _ _).alloc (Nat.le_refl _) _
  have dc := Decode_any _ (h.below hb0)
  have hlen := h.len
  have Y0 := Lib.hid (h.below hb0)
  have I0 := Lib.hid (h1.below hb0)
  have X0 := Lib.hid (SBox.made w s.f s.st A1 n1 c1)
  have B0 := Lib.hid hb0
  have hbig : 1048576 < bs.length → decL bs = ([], 4) := fun hh => by unfold decL; rw [if_pos hh]
  have hfew := decL_few bs
  obtain ⟨V, hV⟩ : ∃ V, appV bs s = V := ⟨_, rfl⟩
  rw [hV]
  unfold appV at hV
  generalize decL bs = D at *
  obtain ⟨xs, er⟩ := D
  dsimp only at hV hfew
  have DC := Lib.hid dc
  clear dc h h1 hb0
  by_cases her : er = 0
  · subst her
    rw [if_neg (by simp)] at hV
    have hbl : bs.length ≤ 1048576 := by
      by_cases hh : 1048576 < bs.length
      · have := hbig hh
        injection this with _ h2
        cases h2
      · omega
    clear hbig
    cases hv : validS s.f s.st s.ds
    · rw [if_pos hv] at hV
      subst hV
      clear hlen hfew
      have gv := fun W (I : Ints W A1 n1 c1 s.ds) => gValid_calls s.f s.st W I
      rw [hv] at gv
      have GV := Lib.hid gv
      clear gv hv
      go_enter Try.func29, Try.ntmps29
      go_wp2_with fail
      refine (DC.out).mono ?_
      rintro e w1 ⟨A2, n2, c2, rfl, s2, b1⟩
      have I1 := Lib.hid (I0.out.below b1)
      obtain ⟨x0, x1, x2, xl⟩ : SBox w1 w.heap.size s.f s.st A1 n1 c1 := X0.out.below b1 X0.out.lt
      have B1 := Lib.hid (below_then B0.out b1 B0.out.size)
      clear b1 s2
      go_wp2_with fail
      refine (GV.out _ I1.out).mono ?_
      rintro e w2 ⟨rfl, b2⟩
      have B2 := Lib.hid (below_then B1.out b2 B1.out.size)
      clear b2
      go_wp2
      go_returns
      exact RetZ.none_ B2.out
    · rw [if_neg (by rw [hv]; simp)] at hV
      have gv := fun W (I : Ints W A1 n1 c1 s.ds) => gValid_calls s.f s.st W I
      rw [hv] at gv
      have hrl := (recL_len s.f s.st s.ds).2
      have hrl8 := (recL_len s.f s.st s.ds).1
      have hn1 := (validS_parts hv).1.n1
      have rc := fun W (I : Ints W A1 n1 c1 s.ds) => record_calls s.f s.st W I hv
      have er : recD s = recL s.f s.st s.ds := rfl
      rw [← er] at hrl hrl8 rc
      generalize recD s = R at *
      have hRl : R.length ≤ 300000 := by omega
      have hnn : n ≤ 1048576 := by omega
      have cl := fun W (I : Byts W A n c bs) => clone_calls W I (by omega)
      have hxs : xs.length ≤ 1000 := hfew
      have HV := Lib.hid hV
      have GV := Lib.hid gv
      have RC := Lib.hid rc
      have CL := Lib.hid cl
      clear gv rc cl hv hrl hn1 hfew er hV
      go_enter Try.func29, Try.ntmps29
      go_wp2_with fail
      refine (DC.out).mono ?_
      rintro e w1 ⟨A2, n2, c2, rfl, s2, b1⟩
      obtain rfl : n2 = xs.length := s2.len.symm
      have I1 := Lib.hid (I0.out.below b1)
      have Y1 := Lib.hid (Y0.out.below b1)
      have X1 : Hid (SBox w1 w.heap.size s.f s.st A1 n1 c1) := Lib.hid (X0.out.below b1 X0.out.lt)
      obtain ⟨x0, x1, x2, xl⟩ := X1.out
      have B1 := Lib.hid (below_then B0.out b1 B0.out.size)
      clear b1 s2
      go_wp2_with fail
      refine (GV.out _ I1.out).mono ?_
      rintro e w2 ⟨rfl, b2⟩
      have I2 := Lib.hid (I1.out.below b2)
      have Y2 := Lib.hid (Y1.out.below b2)
      have X2 : Hid (SBox w2 w.heap.size s.f s.st A1 n1 c1) := Lib.hid (X1.out.below b2 X1.out.lt)
      clear x0 x1 x2 xl
      obtain ⟨x0, x1, x2, xl⟩ := X2.out
      have B2 := Lib.hid (below_then B1.out b2 B1.out.size)
      clear b2
      go_wp2
      go_upto_region 6 with fail
      go_cut [8] (fun t wx => OwnB wx w2.heap.size t (bs ++ R) ∧ Below w2.heap.size w2 wx)
      case first =>
        as_aux_lemma =>
        clear HV DC GV B0 B1 X0 X1 Y0 Y1 I0 I1
        have cl1 := CL.out w2.drew (Y2.out.drewN 1)
        have CL1 := Lib.hid cl1
        clear cl1
        go_region_law (first
          | (refine step_append_bytes w5 w2.heap.size _ bs A5 n5 c5 R rfl _ _ rfl rfl rfl O5.out B5.out.size Y5.out hn5 (by omega) ?_; intro v6 w6 o6 b6)
          | (go_simp; go_at_call 23; (with_reducible refine CL1.out.mono ?_); rintro e w4 ⟨v4, rfl, o4, b4⟩; have I4 := Lib.hid ((I2.out.drewN 1).below b4); have O4 := Lib.hid o4; have X4 := X2.out.below (below_then (below_drewN (Below.refl w2.heap.size w2) 1) b4 (Nat.le_refl _)) X2.out.lt; obtain ⟨q0, q1, q2, ql⟩ := X4; have B4 := Lib.hid (below_then (below_drewN (Below.refl w2.heap.size w2) 1) b4 (Nat.le_refl _)); clear o4 b4)
          | (go_simp; go_at_call 38; (with_reducible refine (RC.out _ I4.out).mono ?_); rintro e w5 ⟨v5, rfl, o5, b5⟩; obtain ⟨A5, n5, c5, rfl, y5, -⟩ := o5.ints; have hn5 : 0 < n5 := (by have := y5.len; omega); have Y5 := Lib.hid y5; have O5 := Lib.hid (O4.out.below b5); have B5 := Lib.hid (below_then B4.out b5 B4.out.size); clear o5 b5 y5))
        all_goals (go_wp2_with fail; go_meet)
        all_goals exact ⟨o6, B5.out.trans b6⟩
      case rest =>
        obtain ⟨o8, b8⟩ := hcut
        obtain ⟨A8, n8, c8, rfl, y8, -⟩ := o8.ints
        obtain rfl : n8 = (bs ++ R).length := y8.len.symm
        have O8 := Lib.hid (o8.mono (show w.heap.size ≤ w2.heap.size from B2.out.size))
        have B8 := Lib.hid (below_then B2.out b8 B2.out.size)
        have hl8 : (bs ++ R).length = bs.length + R.length := List.length_append
        obtain ⟨L, hL⟩ : ∃ L, (bs ++ R).length = L := ⟨_, rfl⟩
        rw [hL] at hl8 O8
        have hv := HV.out
        have hLb : (L : Int) ≤ 2000000 := by omega
        rw [← hl8] at hv
        clear o8 b8 y8 HV X0 X1 X2 x0 x1 x2 xl
        by_cases h1 : xs.length = 1000
        · rw [if_pos (.inl h1)] at hv
          subst hv
          have h2 : ((xs.length : Int) == 1000) = true := by simp [h1]
          clear h1
          rw [hL]
          clear hL hl8
          go_wp2
          go_returns
          exact RetZ.none_ B8.out
        · have h2 : ((xs.length : Int) == 1000) = false := by simp; omega
          by_cases h3 : 1048576 < L
          · rw [if_pos (.inr h3)] at hv
            subst hv
            have h4 : (1048576 : Int) < (L : Int) := by omega
            rw [hL]
            clear hL hl8 h1
            go_wp2
            go_returns
            exact RetZ.none_ B8.out
          · rw [if_neg (by omega)] at hv
            subst hv
            have h4 : (L : Int) ≤ 1048576 := by omega
            rw [hL]
            clear hL hl8 h1
            go_wp2
            go_returns
            exact ⟨_, rfl, O8.out, B8.out⟩
  · rw [if_pos her] at hV
    subst hV
    have heq : (er == 0) = false := by simp [her]
    clear hlen hfew hbig her
    go_enter Try.func29, Try.ntmps29
    go_wp2_with fail
    refine (DC.out).mono ?_
    rintro e w1 ⟨A2, n2, c2, rfl, s2, b1⟩
    have B1 := Lib.hid (below_then B0.out b1 B0.out.size)
    clear b1 s2
    go_wp2
    go_returns
    exact RetZ.none_ B1.out
theorem Append_calls {A A1 : Option Addr} {n c n1 c1 : Nat} {bs : List Int} (s : SerD) (w : World) (h : Byts w A n c bs) (hA : ∀ ad, A = some ad → ad.block < w.heap.size) (h1 : Ints w A1 n1 c1 s.ds) :
    Calls Try.prog 29 #[.slice A n c, serA s.f s.st A1 n1 c1] w (RetZ (appV bs s).1 (appV bs s).2 w) := Append_any s w h h1
end Go.Proofs.Ytchnfahgmceohaa
