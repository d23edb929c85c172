/- The append of a whole list onto a list of the call's own; slices.Clone. -/
import Derived.Test.YtfhikdgdckfalaaMB01
import Derived.Laws.AppendOwnNone
import Derived.Lib.AppendZeros
import Derived.WalkSpells
import Derived.Handy
import Derived.Test.YtfhikdgdckfalaaMB10
import Derived.Test.YtfhikdgdckfalaaMB12
import Derived.Test.YtfhikdgdckfalaaMB02
import Derived.Deep.QuietTactic
import Derived.BigQuiet

namespace Go.Proofs.Ytfhikdgdckfalaa
open Go.RowKit
set_option linter.unusedVariables false

theorem Cells_append (zs ys : List Int) : Cells (zs ++ ys) = Cells zs ++ Cells ys := by simp [Cells]
set_option maxRecDepth 100000 in
theorem wpList_append_ints {ops : Array Oper} {rest : List Oper} {o : Oper} {a : Act} {Q : Exit → Act → World → Prop} (w : World) (B : Nat) (v : Value) (zs : List Int) (A : Option Addr) (m c : Nat) (ys : List Int)
    (hgd : o.guard = none) (s y : Operand) (ho : o.op = .call { callee := .builtin .append, args := #[s, y], argTypes := #[23, 23] })
    (hs : a.eval s = v) (hx : a.eval y = .slice A m c) (hown : Own w B v zs) (hB : B ≤ w.heap.size) (hi : Ints w A m c ys) (hf : zs.length + ys.length ≤ 17592186044416)
    (h : ∀ v' w', Own w' B v' (zs ++ ys) → Below B w w' → wpList Try.prog ops Q rest (a.put o.dst v') w') : wpList Try.prog ops Q (o :: rest) a w := by
  obtain ⟨i0, hi0, hz0, hz1, hz2⟩ := info_parts info_int
  cases A with
  | none =>
    have hc := hi.nl rfl
    have hm : m = 0 := by have := hi.cap; omega
    subst hc hm
    have hy : ys = [] := List.eq_nil_of_length_eq_zero hi.len
    subst hy
    refine wpList_append_own_none hgd s y 23 ho B 3 i0 1 Try.underlying23 hi0 v zs.length (Cells zs) hs hown.row hx (h v w (by rw [List.append_nil]; exact hown) (Below.refl _ _))
  | some ad =>
    refine wpList_append_own w hgd s y 23 ho B 3 i0 (.int .i64 0) 1 8 Try.underlying23 hi0 hz0 hz1 hz2 rfl (by decide) v zs.length (Cells zs) hs hown.row ad m c (Cells ys) hx (by rw [Cells_length, hi.len, Nat.mul_one]) ?_ ?_ ?_ ?_ hB ?_
    · intro j u hj
      have hjl : j < ys.length := by
        have := (List.getElem?_eq_some_iff.1 hj).1
        rwa [Cells_length] at this
      rw [Cells_get ys j hjl] at hj
      injection hj with hj
      subst hj
      obtain ⟨ad', e, _, hc⟩ := hi.mem (by rw [← hi.len]; omega)
      injection e with e
      subst e
      exact hc j (by rw [← hi.len]; exact hjl)
    · intro u hu
      obtain ⟨z, _, rfl⟩ := List.mem_map.1 hu
      rfl
    · have := hi.len; unfold maxLen; omega
    · have := hi.len; omega
    · intro v' w' ho' hg _
      refine h v' w' ⟨?_, ?_, ?_⟩ ?_
      · rw [Cells_append, List.length_append, hi.len]; exact ho'
      · intro z hz
        rcases List.mem_append.1 hz with hz | hz
        · exact hown.rng z hz
        · exact hi.rng z hz
      · rw [List.length_append]; exact hf
      · exact (Below.refl B w).grown hg hB (fun k hk => (hown.row.lt k hk).1)

theorem Own.empty (w : World) (B : Nat) (hB : B ≤ w.heap.size) : Own (w.alloc (.cells #[] 3)) B (.slice (some ⟨w.heap.size, 0, none⟩) 0 0) [] :=
  ⟨World.ownsRow_made w _ 0 hB (by unfold maxLen; omega) rfl, by simp, by simp⟩

set_option maxRecDepth 100000 in
set_option maxHeartbeats 600000 in
theorem Clone_calls {A : Option Addr} {n c : Nat} {zs : List Int} (w : World) (h : Ints w A n c zs) :
    Calls Try.prog 60 #[.slice A n c] w fun e w' => ∃ v, e = .returned v ∧ Own w' w.heap.size v zs ∧ Below w.heap.size w w' := by
  have H := Lib.hid h
  have hfew := h.few
  have HL := Lib.hid h.len
  cases A with
  | none =>
    obtain rfl := h.nl rfl
    obtain rfl : n = 0 := by have := h.cap; omega
    have hz : zs = [] := List.eq_nil_of_length_eq_zero h.len
    subst hz
    have he := fun w => Lib.run_eql_slice_nil (P := Try.prog) w 23 3 none 0 0 0 0 Try.underlying23
    clear h
    go_enter Try.func60, Try.ntmps60
    go_wp2
    go_ret
    exact ⟨_, rfl, Own.nil _ _, Below.refl _ _⟩
  | some ad =>
    have he := fun w => Lib.run_eql_slice_nil (P := Try.prog) w 23 3 (some ad) n c 0 0 Try.underlying23
    clear h
    have HO := Lib.hid (Own.empty w w.heap.size (Nat.le_refl _))
    have HI := Lib.hid (H.out.alloc (.cells #[] 3))
    go_enter Try.func60, Try.ntmps60
    go_wp2_with (at_builtin; refine wpList_append_ints _ w.heap.size _ [] (some ad) n c zs rfl _ _ rfl rfl rfl HO.out (by simp) HI.out (by rw [HL.out]; simp; omega) ?_)
    intro v' w' ho hb
    have R := Lib.hid ho
    have RB := Lib.hid (((Below.refl w.heap.size w).alloc (Nat.le_refl _) (.cells #[] 3)).trans hb)
    clear ho hb
    go_wp2
    go_ret
    exact ⟨_, rfl, R.out, RB.out⟩

end Go.Proofs.Ytfhikdgdckfalaa

/- placed of the program: the blocks around a peak, from the greatest one to the least one. -/
namespace Go.Proofs.Ytfhikdgdckfalaa
open Go.RowKit
set_option linter.unusedVariables false

set_option maxRecDepth 100000 in
set_option maxHeartbeats 4000000 in
theorem placed_calls {A : Option Addr} {n c : Nat} {l : List Int} (p : Nat) (w : World) (h : Ints w A n c l) (hp : p < n) (hn : n ≤ 10000) :
    Calls Try.prog 70 #[.slice A n c, .int .i64 p] w (Ret1 (placL l p) w) := by
  have hll := h.len
  have HL := Lib.hid hll
  have HRG := Lib.hid (fun j (hj : j < n) => h.rng (el l j) (el_mem (by rw [hll]; exact hj)))
  have CL := Lib.hid (Clone_calls w h)
  have I0 := Lib.hid h
  have hcap := h.cap
  have hmax := h.max
  have hmk := make_ints n (by omega)
  have HMK := Lib.hid hmk
  clear h hll hmk
  go_enter Try.func70, Try.ntmps70
  go_wp2_with fail
  refine (CL.out).mono ?_
  rintro e w1 ⟨v, rfl, o1, b1⟩
  obtain ⟨g, c1, rfl, hg, h1, h2, hrow⟩ := o1.asRow (by rw [HL.out]; omega)
  rw [HL.out] at h1 hrow ⊢
  have ST := Lib.hid (sortStable_calls w1 ⟨hrow, h1, h2, by omega⟩ (by omega))
  have B1 := Lib.hid b1
  clear o1 b1 hrow
  go_wp2_with fail
  refine (ST.out).mono ?_
  rintro e w2 hs
  obtain ⟨rfl, S, r2, b2, m2, d2⟩ := hs
  have DO : Hid (DescOf n l S) := Lib.hid ⟨d2, m2.cnt, fun k hk => by obtain ⟨i, -, i1, i2⟩ := m2.sub k (Nat.zero_le _) hk; exact ⟨i, i1, i2⟩⟩
  have B2 := Lib.hid (B1.out.trans (b2.mono hg))
  have R2 := Lib.hid r2
  have hsz : w.heap.size ≤ w2.heap.size := B2.out.size
  clear r2 b2 m2 d2 ST CL
  have hmk := HMK.out
  obtain ⟨W3, hW3⟩ : ∃ W3, w2.alloc (.cells (madeCells #[.int .i64 0] n) 3) = W3 := ⟨_, rfl⟩
  have RO := Lib.hid (show Row W3 w2.heap.size n (fun _ => 0) by rw [← hW3]; exact Row.made w2 n)
  have B3 := Lib.hid (show Below w.heap.size w W3 by rw [← hW3]; exact B2.out.alloc hsz _)
  have hgl : g < w2.heap.size := R2.out.r.lt
  have R3 := Lib.hid (show Row W3 g n S by rw [← hW3]; exact R2.out.r.alloc _)
  have HW3 := Lib.hid hW3
  clear R2 hW3
  have hp1 : IntKind.i64.wrap ((p : Int) - 1) = (p : Int) - 1 := IntWalk.i64_in _ (by omega)
  clear B1 B2 I0
  go_wp2
  go_loopw [7, 8, 24] (fun vl vr vk wr => ∃ k : Nat, k ≤ n ∧ vk = .int .i64 k ∧ vl = .int .i64 (plA n p S k).l ∧ vr = .int .i64 (plA n p S k).r ∧ Row wr w2.heap.size n (plA n p S k).f ∧ Row wr g n S ∧ Below w.heap.size w wr) (fun _ _ vk _ => n - (intOf vk).toNat)
  case atStart => exact ⟨0, Nat.zero_le _, rfl, rfl, rfl, by rw [HW3.out]; exact RO.out, by rw [HW3.out]; exact R3.out, by rw [HW3.out]; exact B3.out⟩
  case round =>
    obtain ⟨k, hk, rfl, rfl, rfl, hr, hr2, hb⟩ := hrel
    generalize wr = wo at *
    have HRO := Lib.hid hr
    have HRS := Lib.hid hr2
    have HB := Lib.hid hb
    clear hr hr2 hb RO R3 B3 hmk HMK
    by_cases hlt : (k : Int) < (n : Int)
    · have cs := HRS.out.cell k (by omega)
      by_cases hk0 : k = 0
      · subst hk0
        obtain ⟨x, hx⟩ : ∃ x, S 0 = x := ⟨_, rfl⟩
        rw [hx] at cs
        have FO := HRO.out.free p
        have CO := HRO.out.cell p hp
        have R1 := Lib.hid (show Row (wo.setCell ⟨w2.heap.size, p, none⟩ (.int .i64 x)) w2.heap.size n (plA n p S (0 + 1)).f by rw [← hx]; exact HRO.out.set p (S 0))
        have R2 := Lib.hid (HRS.out.far (p := ⟨w2.heap.size, p, none⟩) (show g ≠ w2.heap.size by omega) (.int .i64 x))
        have B4 := Lib.hid (HB.out.setCell (p := ⟨w2.heap.size, p, none⟩) hsz (.int .i64 x))
        clear HRO HRS HB hx
        go_wp2
        go_roundw
        case rel => exact ⟨1, by omega, by go_num, rfl, rfl, R1.out, R2.out, B4.out⟩
        case measure => simp [intOf]; try omega
      · have ok : PlOk n p k (plA n p S k).l (plA n p S k).r := by
          have := plA_ok S hp (k - 1) (by omega)
          rwa [show k - 1 + 1 = k by omega] at this
        have NR : Hid (((plA n p S k).r < n ∧ k % 2 = 1) ∨ (plA n p S k).l < 0 → (plA n p S (k + 1)).l = (plA n p S k).l ∧ (plA n p S (k + 1)).r = (plA n p S k).r + 1 ∧ (plA n p S (k + 1)).f = upd (plA n p S k).f (plA n p S k).r.toNat (S k)) := Lib.hid (fun c => by rw [plA_right hk0 c]; exact ⟨rfl, rfl, rfl⟩)
        have NL : Hid (¬ (((plA n p S k).r < n ∧ k % 2 = 1) ∨ (plA n p S k).l < 0) → (plA n p S (k + 1)).l = (plA n p S k).l - 1 ∧ (plA n p S (k + 1)).r = (plA n p S k).r ∧ (plA n p S (k + 1)).f = upd (plA n p S k).f (plA n p S k).l.toNat (S k)) := Lib.hid (fun c => by rw [plA_left hk0 c]; exact ⟨rfl, rfl, rfl⟩)
        generalize (plA n p S k).l = L at *
        generalize (plA n p S k).r = R at *
        generalize (plA n p S k).f = f at *
        generalize S k = x at *
        obtain ⟨q, hq⟩ : ∃ q : Nat, R = q := ⟨R.toNat, by have := ok.r0; omega⟩
        subst hq
        rw [Int.toNat_natCast] at NR
        obtain ⟨k0, k1, k2, k3, k4⟩ := ok
        have HOK := Lib.hid k4
        have hkz : ((k : Int) == 0) = false := by rw [beq_eq_false_iff_ne]; omega
        by_cases hL : L < 0
        · have hqn : (q : Int) < (n : Int) := by omega
          rcases Nat.mod_two_eq_zero_or_one k with hm | hm
          · have et : (k : Int).tmod 2 = 0 := by rw [show (2 : Int) = ((2 : Nat) : Int) from rfl, ← Int.ofNat_tmod, hm]; rfl
            clear hm k4
            have NX := Lib.hid (NR.out (.inr hL))
            have FO := HRO.out.free q
            have CO := HRO.out.cell q (by omega)
            have R1 := Lib.hid (show Row (wo.setCell ⟨w2.heap.size, q, none⟩ (.int .i64 x)) w2.heap.size n (plA n p S (k + 1)).f by rw [NX.out.2.2]; exact HRO.out.set q x)
            have R2 := Lib.hid (HRS.out.far (p := ⟨w2.heap.size, q, none⟩) (show g ≠ w2.heap.size by omega) (.int .i64 x))
            have B4 := Lib.hid (HB.out.setCell (p := ⟨w2.heap.size, q, none⟩) hsz (.int .i64 x))
            clear NR NL HRO HRS HB HOK
            go_wp2
            go_roundw
            case rel => exact ⟨k + 1, by omega, by go_num, by rw [NX.out.1], by rw [NX.out.2.1], R1.out, R2.out, B4.out⟩
            case measure => simp [intOf]; try omega
          · have et : (k : Int).tmod 2 = 1 := by rw [show (2 : Int) = ((2 : Nat) : Int) from rfl, ← Int.ofNat_tmod, hm]; rfl
            clear hm k4
            have NX := Lib.hid (NR.out (.inr hL))
            have FO := HRO.out.free q
            have CO := HRO.out.cell q (by omega)
            have R1 := Lib.hid (show Row (wo.setCell ⟨w2.heap.size, q, none⟩ (.int .i64 x)) w2.heap.size n (plA n p S (k + 1)).f by rw [NX.out.2.2]; exact HRO.out.set q x)
            have R2 := Lib.hid (HRS.out.far (p := ⟨w2.heap.size, q, none⟩) (show g ≠ w2.heap.size by omega) (.int .i64 x))
            have B4 := Lib.hid (HB.out.setCell (p := ⟨w2.heap.size, q, none⟩) hsz (.int .i64 x))
            clear NR NL HRO HRS HB HOK
            go_wp2
            go_roundw
            case rel => exact ⟨k + 1, by omega, by go_num, by rw [NX.out.1], by rw [NX.out.2.1], R1.out, R2.out, B4.out⟩
            case measure => simp [intOf]; try omega
        · by_cases hqn : (q : Int) < (n : Int)
          · rcases Nat.mod_two_eq_zero_or_one k with hm | hm
            · have et : (k : Int).tmod 2 = 0 := by rw [show (2 : Int) = ((2 : Nat) : Int) from rfl, ← Int.ofNat_tmod, hm]; rfl
              have HC := Lib.hid (show ¬ (((q : Int) < n ∧ k % 2 = 1) ∨ L < 0) by omega)
              clear hm k4
              have NX := Lib.hid (NL.out HC.out)
              obtain ⟨j, hj⟩ : ∃ j : Nat, L = j := ⟨L.toNat, by omega⟩
              subst hj
              have FO := HRO.out.free j
              have hjn : (j : Int) < (n : Int) := by omega
              have CO := HRO.out.cell j (by omega)
              have R1 := Lib.hid (show Row (wo.setCell ⟨w2.heap.size, j, none⟩ (.int .i64 x)) w2.heap.size n (plA n p S (k + 1)).f by rw [NX.out.2.2]; exact HRO.out.set j x)
              have R2 := Lib.hid (HRS.out.far (p := ⟨w2.heap.size, j, none⟩) (show g ≠ w2.heap.size by omega) (.int .i64 x))
              have B4 := Lib.hid (HB.out.setCell (p := ⟨w2.heap.size, j, none⟩) hsz (.int .i64 x))
              clear NR NL HRO HRS HB HOK
              go_wp2
              go_roundw
              case rel => exact ⟨k + 1, by omega, by go_num, by rw [NX.out.1], by rw [NX.out.2.1], R1.out, R2.out, B4.out⟩
              case measure => simp [intOf]; try omega
            · have et : (k : Int).tmod 2 = 1 := by rw [show (2 : Int) = ((2 : Nat) : Int) from rfl, ← Int.ofNat_tmod, hm]; rfl
              have HC := Lib.hid (show (((q : Int) < n ∧ k % 2 = 1) ∨ L < 0) by omega)
              clear hm k4
              have NX := Lib.hid (NR.out HC.out)
              have FO := HRO.out.free q
              have CO := HRO.out.cell q (by omega)
              have R1 := Lib.hid (show Row (wo.setCell ⟨w2.heap.size, q, none⟩ (.int .i64 x)) w2.heap.size n (plA n p S (k + 1)).f by rw [NX.out.2.2]; exact HRO.out.set q x)
              have R2 := Lib.hid (HRS.out.far (p := ⟨w2.heap.size, q, none⟩) (show g ≠ w2.heap.size by omega) (.int .i64 x))
              have B4 := Lib.hid (HB.out.setCell (p := ⟨w2.heap.size, q, none⟩) hsz (.int .i64 x))
              clear NR NL HRO HRS HB HOK
              go_wp2
              go_roundw
              case rel => exact ⟨k + 1, by omega, by go_num, by rw [NX.out.1], by rw [NX.out.2.1], R1.out, R2.out, B4.out⟩
              case measure => simp [intOf]; try omega
          · have HC := Lib.hid (show ¬ (((q : Int) < n ∧ k % 2 = 1) ∨ L < 0) by omega)
            clear k4
            have NX := Lib.hid (NL.out HC.out)
            obtain ⟨j, hj⟩ : ∃ j : Nat, L = j := ⟨L.toNat, by omega⟩
            subst hj
            have FO := HRO.out.free j
            have hjn : (j : Int) < (n : Int) := by omega
            have CO := HRO.out.cell j (by omega)
            have R1 := Lib.hid (show Row (wo.setCell ⟨w2.heap.size, j, none⟩ (.int .i64 x)) w2.heap.size n (plA n p S (k + 1)).f by rw [NX.out.2.2]; exact HRO.out.set j x)
            have R2 := Lib.hid (HRS.out.far (p := ⟨w2.heap.size, j, none⟩) (show g ≠ w2.heap.size by omega) (.int .i64 x))
            have B4 := Lib.hid (HB.out.setCell (p := ⟨w2.heap.size, j, none⟩) hsz (.int .i64 x))
            clear NR NL HRO HRS HB HOK
            go_wp2
            go_roundw
            case rel => exact ⟨k + 1, by omega, by go_num, by rw [NX.out.1], by rw [NX.out.2.1], R1.out, R2.out, B4.out⟩
            case measure => simp [intOf]; try omega
    · obtain rfl : k = n := by omega
      have RG := Lib.hid (plA_rng (n := k) (p := p) (S := S) (a := -9223372036854775808) (b := 9223372036854775807) (by omega) k (fun j hj => by obtain ⟨i, i1, i2⟩ := DO.out.2.2 j hj; rw [i2]; exact HRG.out i i1))
      have RI := Lib.hid (HRO.out.ints (Nat.le_refl k) (by omega) (by omega) (fun i _ => RG.out i))
      clear HRO HRS RG
      go_wp2
      go_ret
      exact ⟨_, _, _, rfl, by rw [← DescOf.placL HL.out DO.out]; exact RI.out, HB.out, fun ad e => by injection e with e; subst e; exact hsz⟩

end Go.Proofs.Ytfhikdgdckfalaa

/- The reference's Valid, and Same, at records. -/
namespace Go.Proofs.Ytfhikdgdckfalaa
open Go.RowKit
set_option linter.unusedVariables false

set_option maxHeartbeats 2000000 in
set_option maxRecDepth 100000 in
theorem rValid_calls {A : Option Addr} {n c : Nat} {ds : List Int} (f st : Int) (w : World) (h : Ints w A n c ds) :
    Calls Try.prog 22 #[serA f st A n c] w fun e w' => e = .returned (.bool (validS f st ds)) ∧ Below w.heap.size w w' := by
  have hcap := h.cap
  have hmax := h.max
  have S := SBox.made w f st A n c
  have HB := Lib.hid ((Below.refl w.heap.size w).alloc (Nat.le_refl _) (serO f st A n c))
  unfold validS
  have hlen := h.len
  rw [hlen]
  obtain ⟨s0, s1, s2, sl⟩ := S
  have i1 := fun W => Instant_ref f W
  have i2 := fun W => Instant_ref (f + st * n) W
  have i3 := fun W => Length_ref st W
  cases hf : frameB f st n
  · rw [Bool.false_and]
    unfold frameB at hf
    cases hi : instB f
    · rw [hi] at i1
      have I1 := Lib.hid i1
      clear h hf hi i1 i2 i3 hlen
      go_enter Try.func22, Try.ntmps22
      go_wp2_with fail
      refine (I1.out _).mono ?_
      rintro e w1 ⟨rfl, rfl⟩
      go_wp2
      go_ret
      exact ⟨rfl, HB.out⟩
    rw [hi, Bool.true_and] at hf
    rw [hi] at i1
    have I1 := Lib.hid i1
    cases hj : lenB st
    · rw [hj] at i3
      have I3 := Lib.hid i3
      clear h hf hi i1 i2 i3 hj hlen
      go_enter Try.func22, Try.ntmps22
      go_wp2_with fail
      refine (I1.out _).mono ?_
      rintro e w1 ⟨rfl, rfl⟩
      go_wp2_with fail
      refine (I3.out _).mono ?_
      rintro e w1 ⟨rfl, rfl⟩
      go_wp2
      go_ret
      exact ⟨rfl, HB.out⟩
    rw [hj, Bool.true_and] at hf
    rw [hj] at i3
    have I3 := Lib.hid i3
    by_cases h3 : 10000 < (n : Int)
    · clear h hf hi hj i1 i2 i3 hlen
      go_enter Try.func22, Try.ntmps22
      go_wp2_with fail
      refine (I1.out _).mono ?_
      rintro e w1 ⟨rfl, rfl⟩
      go_wp2_with fail
      refine (I3.out _).mono ?_
      rintro e w1 ⟨rfl, rfl⟩
      go_wp2
      go_ret
      exact ⟨rfl, HB.out⟩
    rw [decide_eq_true (show n ≤ 10000 by omega), Bool.true_and] at hf
    have hs := lenB_iff.1 hj
    obtain ⟨P, hP⟩ : ∃ P, st * (n : Int) = P := ⟨_, rfl⟩
    have hp0 : 0 ≤ P := by rw [← hP]; exact Int.mul_nonneg (by omega) (by omega)
    have hp1 : P ≤ 86400 * 10000 := by rw [← hP]; exact Int.mul_le_mul (by omega) (by omega) (by omega) (by omega)
    rw [hf, hP] at i2
    have hff := instB_iff.1 hi
    have I2 := Lib.hid i2
    clear h hf hi hj i1 i2 i3 hlen
    go_enter Try.func22, Try.ntmps22
    go_wp2_with fail
    refine (I1.out _).mono ?_
    rintro e w1 ⟨rfl, rfl⟩
    go_wp2_with fail
    refine (I3.out _).mono ?_
    rintro e w1 ⟨rfl, rfl⟩
    go_wp2_with fail
    refine (I2.out _).mono ?_
    rintro e w1 ⟨rfl, rfl⟩
    go_wp2
    go_ret
    exact ⟨rfl, HB.out⟩
  · rw [Bool.true_and]
    obtain ⟨f0, f1, k0, k1, n1, e0, e1⟩ := frameB_iff.1 hf
    rw [instB_iff.2 ⟨f0, f1⟩] at i1
    rw [instB_iff.2 ⟨e0, e1⟩] at i2
    rw [lenB_iff.2 ⟨k0, k1⟩] at i3
    obtain ⟨P, hP⟩ : ∃ P, st * (n : Int) = P := ⟨_, rfl⟩
    have hp0 : 0 ≤ P := by rw [← hP]; exact Int.mul_nonneg (by omega) (by omega)
    have hp1 : P ≤ 86400 * 10000 := by rw [← hP]; exact Int.mul_le_mul (by omega) (by omega) (by omega) (by omega)
    rw [hP] at i2 e0 e1
    obtain ⟨V, hV⟩ : ∃ V, (!ds.any badD) = V := ⟨_, rfl⟩
    rw [hV]
    have HV := Lib.hid hV
    have I1 := Lib.hid i1
    have I2 := Lib.hid i2
    have I3 := Lib.hid i3
    have H := Lib.hid (h.alloc (serO f st A n c))
    have HL := Lib.hid hlen
    have h3 : ¬ 10000 < (n : Int) := by omega
    clear h hf i1 i2 i3 hV hlen
    go_enter Try.func22, Try.ntmps22
    go_wp2_with fail
    refine (I1.out _).mono ?_
    rintro e w1 ⟨rfl, rfl⟩
    go_wp2_with fail
    refine (I3.out _).mono ?_
    rintro e w1 ⟨rfl, rfl⟩
    go_wp2_with fail
    refine (I2.out _).mono ?_
    rintro e w1 ⟨rfl, rfl⟩
    go_wp2
    go_loop [3] (fun i => ∃ k : Nat, k ≤ n ∧ i = .int .i64 k ∧ ∀ j, j < k → badD (el ds j) = false) (fun i => n - (intOf i).toNat)
    case atStart => exact ⟨0, Nat.zero_le _, rfl, fun j hj => absurd hj (by omega)⟩
    case round =>
      obtain ⟨k, hk, rfl, hno⟩ := hrel
      have HN := Lib.hid hno
      clear hno
      by_cases hlt : k < n
      · obtain ⟨ad, rfl, hl, hc⟩ := H.out.at_ hlt
        have HY : Hid (badD (el ds k) = true → V = false) := Lib.hid fun hb => by rw [← HV.out, any_at (by rw [HL.out]; exact hlt) hb]; rfl
        have HS : Hid (badD (el ds k) = false → ∀ j, j < k + 1 → badD (el ds j) = false) := Lib.hid fun hb j hj => by
          by_cases hjk : j = k
          · subst hjk; exact hb
          · exact HN.out j (by omega)
        generalize el ds k = y at *
        by_cases b0 : y < -1
        · have hv : V = false := HY.out (by unfold badD; rw [decide_eq_true b0]; rfl)
          subst hv
          go_wp2
          go_ret
          exact ⟨rfl, HB.out⟩
        by_cases b1 : 4194304 < y
        · have hv : V = false := HY.out (by unfold badD; rw [decide_eq_true b1, Bool.or_true])
          subst hv
          go_wp2
          go_ret
          exact ⟨rfl, HB.out⟩
        have HX := Lib.hid (HS.out (by unfold badD; rw [decide_eq_false b0, decide_eq_false b1]; rfl))
        go_wp2
        go_round
        case rel => exact ⟨k + 1, by omega, by go_num, HX.out⟩
        case measure => simp [intOf]; try omega
      · obtain rfl : k = n := by omega
        have hv : V = true := by rw [← HV.out, any_take (fun j hj => HN.out j (by rw [HL.out] at hj; omega))]; rfl
        subst hv
        go_wp2
        go_ret
        exact ⟨rfl, HB.out⟩

set_option maxHeartbeats 1000000 in
set_option maxRecDepth 100000 in
/-- Same at two records that read the same: true. -/
theorem Same_ser {A A' : Option Addr} {n c n' c' : Nat} {ds : List Int} (f st : Int) (w : World) (h : Ints w A n c ds) (h' : Ints w A' n' c' ds) :
    Calls Try.prog 15 #[serA f st A n c, serA f st A' n' c'] w fun e w' => e = .returned (.bool true) ∧ Below w.heap.size w w' := by
  have hcap := h.cap
  have hmax := h.max
  have hcap' := h'.cap
  have hmax' := h'.max
  obtain rfl : n = n' := by rw [← h.len, ← h'.len]
  have hne : ((n : Int) != (n : Int)) = false := by simp
  have hf : ((f : Int) != f) = false := by simp
  have hs : ((st : Int) != st) = false := by simp
  have S := (SBox.made w f st A n c).alloc (serO f st A' n c')
  have S' := SBox.made (w.alloc (serO f st A n c)) f st A' n c'
  rw [World.size_alloc] at S'
  obtain ⟨s0, s1, s2, sl⟩ := S
  obtain ⟨t0, t1, t2, tl⟩ := S'
  have H := Lib.hid ((h.alloc (serO f st A n c)).alloc (serO f st A' n c'))
  have H' := Lib.hid ((h'.alloc (serO f st A n c)).alloc (serO f st A' n c'))
  have HB := Lib.hid (((Below.refl w.heap.size w).alloc (Nat.le_refl _) (serO f st A n c)).alloc (by simp) (serO f st A' n c'))
  clear h h'
  go_enter Try.func15, Try.ntmps15
  go_wp2
  go_loopw [5] (fun i wr => ∃ k : Nat, k ≤ n ∧ i = .int .i64 k ∧ ∃ d, wr = ((w.alloc (serO f st A n c)).alloc (serO f st A' n c')).drewN d) (fun i _ => n - (intOf i).toNat)
  case atStart => exact ⟨0, Nat.zero_le _, rfl, 0, rfl⟩
  case round =>
    obtain ⟨k, hk, rfl, d, rfl⟩ := hrel
    by_cases hlt : k < n
    · obtain ⟨ad, rfl, hl, hc⟩ := H.out.at_ hlt
      obtain ⟨ad', rfl, hl', hc'⟩ := H'.out.at_ hlt
      have e5 : (k : Int) < n := by omega
      have e6 : (0 : Int) ≤ k := by omega
      generalize el ds k = x at *
      have hx : ((x : Int) != x) = false := by simp
      go_wp2
      go_quiet (fail)
      go_wp2
      go_roundw
      case rel => exact ⟨k + 1, by omega, by go_num, _, rfl⟩
      case measure => simp [intOf]; try omega
    · obtain rfl : k = n := by omega
      go_wp2
      go_ret
      exact ⟨rfl, below_drewN HB.out _⟩
end Go.Proofs.Ytfhikdgdckfalaa
