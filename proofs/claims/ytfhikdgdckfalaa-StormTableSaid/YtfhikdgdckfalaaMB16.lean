/- shared of the program. -/
import Derived.Test.YtfhikdgdckfalaaMB03
import Derived.Test.YtfhikdgdckfalaaMB15
import Derived.Test.YtfhikdgdckfalaaMB14
import Derived.WalkLawsBesides
import Derived.Laws.BitsAllLaws
import Derived.Laws.BitsLemmas

namespace Go.Proofs.Ytfhikdgdckfalaa
open Go.RowKit
set_option linter.unusedVariables false

def shdV (t f st : Int) (ws : List Int) : SerD × Int := if (ShareV t ws).2 = 0 then (⟨f, st, (ShareV t ws).1⟩, 0) else (zeroS, (ShareV t ws).2)

set_option maxRecDepth 100000 in
set_option maxHeartbeats 1000000 in
theorem shared_calls {A : Option Addr} {n c : Nat} {ws : List Int} (t f st : Int) (w : World) (h : Ints w A n c ws) :
    Calls Try.prog 44 #[.int .i64 t, .int .i64 f, .int .i64 st, .slice A n c] w (RetSer (shdV t f st ws) w) := by
  have hb0 : Below w.heap.size w (w.alloc (serO 0 0 none 0 0)) := (Below.refl _ _).alloc (Nat.le_refl _) _
  have sc := Share_calls t _ (h.below hb0)
  have Z0 := Lib.hid (ZBox.made w)
  have B0 := Lib.hid hb0
  unfold shdV
  generalize ShareV t ws = V at *
  obtain ⟨l, x⟩ := V
  dsimp only at sc ⊢
  have SC := Lib.hid sc
  clear h sc hb0
  by_cases hx : x = 0
  · subst hx
    rw [if_pos rfl]
    go_enter Try.func44, Try.ntmps44
    go_wp2_with fail
    refine (SC.out).mono ?_
    rintro e w1 ⟨A1, n1, c1, rfl, i1, b1, g1⟩
    have hz := Z0.out.below b1 Z0.out.b.lt
    have F := finS hz (below_then B0.out b1 B0.out.size) ⟨f, st, l⟩ 0 i1 (fun ad e => by have := g1 ad e; simp at this; omega)
    obtain ⟨z0, z1, z2, f0, f1, f2, zl⟩ := hz.cells
    clear hz b1 i1 g1
    dsimp only at F
    go_wp2
    have q := F.out
    generalize ((w1.setCell ⟨w.heap.size, 0, none⟩ (.int .i64 f)).setCell ⟨w.heap.size, 1, none⟩ (.int .i64 st)).setCell ⟨w.heap.size, 2, none⟩ (.slice A1 n1 c1) = W3 at *
    obtain ⟨⟨⟨q0, q1, q2, -⟩, -, -, -, -⟩, q3⟩ := q
    exact bodyPost_ret (v := .tuple #[serA f st A1 n1 c1, .int .i64 0]) (by simp [results, Try.results44, go_sem, q0, q1, q2]) rfl q3
  · rw [if_neg hx]
    have heq : (x == 0) = false := by simp [hx]
    clear hx
    go_enter Try.func44, Try.ntmps44
    go_wp2_with fail
    refine (SC.out).mono ?_
    rintro e w1 ⟨A1, n1, c1, rfl, i1, b1, g1⟩
    have hz := Z0.out.below b1 Z0.out.b.lt
    have F := fin0 hz (below_then B0.out b1 B0.out.size) x
    obtain ⟨z0, z1, z2, f0, f1, f2, zl⟩ := hz.cells
    clear hz b1 i1 g1
    go_wp2
    have q := F.out
    generalize ((w1.setCell ⟨w.heap.size, 0, none⟩ (.int .i64 0)).setCell ⟨w.heap.size, 1, none⟩ (.int .i64 0)).setCell ⟨w.heap.size, 2, none⟩ (.slice none 0 0) = W3 at *
    obtain ⟨⟨⟨q0, q1, q2, -⟩, -, -, -, -⟩, q3⟩ := q
    exact bodyPost_ret (v := .tuple #[serA 0 0 none 0 0, .int .i64 x]) (by simp [results, Try.results44, go_sem, q0, q1, q2]) rfl q3
end Go.Proofs.Ytfhikdgdckfalaa

/- Part of the reference: the quotient of a product, bit by bit. -/
namespace Go.Proofs.Ytfhikdgdckfalaa
open Go.RowKit
set_option linter.unusedVariables false

theorem ofInt_i64 (a : Nat) (ha : a < 9223372036854775808) : (BitVec.ofInt 64 (a : Int)).toNat = a := by
  rw [BitVec.ofInt_natCast, BitVec.toNat_ofNat]; exact Nat.mod_eq_of_lt (by omega)
theorem i64_and_nat (a b : Nat) (ha : a < 9223372036854775808) (hb : b < 9223372036854775808) : bits .and .i64 (a : Int) (b : Int) = ((a &&& b : Nat) : Int) := by
  have hx : a &&& b < 2 ^ 63 := Nat.and_lt_two_pow _ (by omega)
  show IntKind.i64.wrap ((BitVec.ofInt 64 (a : Int) &&& BitVec.ofInt 64 (b : Int)).toNat : Int) = _
  rw [BitVec.toNat_and, ofInt_i64 a ha, ofInt_i64 b hb, IntKind.wrap_i64]
  omega

/-- The bit under way: 2^(j - 1), at last 0. -/
def bitAt (j : Nat) : Nat := if j = 0 then 0 else 2 ^ (j - 1)
theorem bit_zero_iff (T i : Nat) : (T &&& 2 ^ i = 0) ↔ T / 2 ^ i % 2 = 0 := by
  constructor
  · intro h
    have h2 : (T &&& 2 ^ i).testBit i = false := by rw [h]; simp
    rw [Nat.testBit_and, Nat.testBit_two_pow_self, Bool.and_true, Nat.testBit_eq_decide_div_mod_eq] at h2
    simp at h2; omega
  · intro h
    apply Nat.eq_of_testBit_eq
    intro j
    rw [Nat.testBit_and, Nat.testBit_two_pow, Nat.zero_testBit]
    by_cases hij : i = j
    · subst hij
      rw [Nat.testBit_eq_decide_div_mod_eq, decide_eq_false (by omega)]; rfl
    · rw [decide_eq_false hij, Bool.and_false]
theorem shift_step (T i : Nat) : T / 2 ^ i = 2 * (T / 2 ^ (i + 1)) + T / 2 ^ i % 2 := by
  rw [Nat.pow_succ, ← Nat.div_div_eq_div_mul]; omega
/-- What the loop keeps: q W + r = M. -/
theorem part_step0 {T p W q r i : Nat} (h : q * W + r = T / 2 ^ (i + 1) * p) (hb : T / 2 ^ i % 2 = 0) : 2 * q * W + 2 * r = T / 2 ^ i * p := by
  have e := shift_step T i
  rw [hb, Nat.add_zero] at e
  rw [e, Nat.mul_assoc, Nat.mul_assoc, ← h]; omega
theorem part_step1 {T p W q r i : Nat} (h : q * W + r = T / 2 ^ (i + 1) * p) (hb : T / 2 ^ i % 2 = 1) : 2 * q * W + (2 * r + p) = T / 2 ^ i * p := by
  have e := shift_step T i
  rw [hb] at e
  rw [e, Nat.add_mul, Nat.mul_assoc, Nat.mul_assoc, ← h]; omega
theorem part_q {T p W q r i : Nat} (h : q * W + r = T / 2 ^ i * p) (hp : p ≤ W) (hW : 0 < W) : q ≤ T := by
  have h1 : T / 2 ^ i * p ≤ T * W := Nat.mul_le_mul (Nat.div_le_self _ _) hp
  exact Nat.le_of_mul_le_mul_right (by omega : q * W ≤ T * W) hW
theorem part_sub {W q r M : Nat} (h : q * W + r = M) (hr : W ≤ r) : (q + 1) * W + (r - W) = M := by
  rw [Nat.add_mul]; omega
theorem part_end {T p W q r : Nat} (h : q * W + r = T / 2 ^ 0 * p) (hr : r < W) : q = T * p / W := by
  rw [Nat.pow_zero, Nat.div_one] at h
  rw [← h, Nat.mul_comm q W, Nat.mul_add_div (by omega), Nat.div_eq_of_lt hr, Nat.add_zero]

set_option maxHeartbeats 4000000 in
theorem Part_ref (T p W : Nat) (hT : T ≤ 1125899906842624) (hp : p ≤ W) (hW0 : 0 < W) (hW : W ≤ 1152921504606846976) (w : World) :
    Calls Try.prog 66 #[.int .i64 T, .int .i64 p, .int .i64 W] w fun e w' => e = .returned (.int .i64 ((T * p / W : Nat) : Int)) ∧ w = w' := by
  generalize hv : T * p / W = v
  have HV := Lib.hid hv
  clear hv
  go_enter Try.func66, Try.ntmps66
  go_wp2
  go_loop [7, 8, 9] (fun a b d => ∃ (j B q r : Nat), j ≤ 62 ∧ Hid (B = bitAt j) ∧ a = .int .i64 q ∧ b = .int .i64 r ∧ d = .int .i64 B ∧ Hid (q * W + r = T / 2 ^ j * p) ∧ r < W) (fun _ _ d => (intOf d).toNat)
  case atStart => exact ⟨62, 2305843009213693952, 0, 0, Nat.le_refl _, by rfl, rfl, rfl, rfl, by unfold Hid; rw [Nat.div_eq_of_lt (by omega)]; simp, hW0⟩
  case round =>
    obtain ⟨j, B, q, r, hj, hB, rfl, rfl, rfl, hinv, hr⟩ := hrel
    cases j with
    | zero =>
      obtain rfl : B = 0 := hB.out
      have HE : Hid (q = v) := Lib.hid ((part_end hinv.out hr).trans HV.out)
      go_wp2
      go_ret
      exact ⟨by rw [HE.out]; rfl, rfl⟩
    | succ i =>
      have hBi : B = 2 ^ i := by have := hB.out; unfold bitAt at this; simpa using this
      have hB0 : 0 < B := by rw [hBi]; exact Nat.two_pow_pos i
      have hB1 : B ≤ 2305843009213693952 := by rw [hBi, show 2305843009213693952 = 2 ^ 61 by rfl]; exact Nat.pow_le_pow_right (by omega) (by omega)
      have hq := part_q hinv.out hp hW0
      obtain ⟨B2, hB2⟩ : ∃ B2 : Nat, (B : Int) / 2 = B2 := ⟨B / 2, by omega⟩
      have hB2' : Hid (B2 = bitAt i) := Lib.hid (by
        have : B2 = B / 2 := by omega
        rw [this, hBi]
        unfold bitAt
        cases i with
        | zero => rfl
        | succ i => rw [if_neg (by omega), Nat.pow_succ, Nat.mul_div_cancel _ (by omega)]; rfl)
      have hand := i64_and_nat T B (by omega) (by omega)
      obtain ⟨X, hX⟩ : ∃ X, T &&& B = X := ⟨_, rfl⟩
      rw [hX] at hand
      have hXz : X = 0 ↔ T / 2 ^ i % 2 = 0 := by rw [← hX, hBi]; exact bit_zero_iff T i
      have HB2 : Hid (B2 < B) := Lib.hid (by omega)
      clear hX
      by_cases hz : X = 0
      · have e := part_step0 hinv.out (hXz.1 hz)
        have hz' : ((X : Int) != 0) = false := by rw [bne_eq_false_iff_eq]; omega
        have E := Lib.hid e
        clear e hXz hz hB hBi hinv
        go_wp2
        go_loop [7, 8] (fun a b => ∃ (q1 r1 : Nat), a = .int .i64 q1 ∧ b = .int .i64 r1 ∧ Hid (q1 * W + r1 = T / 2 ^ i * p) ∧ r1 ≤ 3 * W) (fun _ b => (intOf b).toNat)
        case atStart => exact ⟨2 * q, 2 * r, by go_num, by go_num, E, by omega⟩
        case round =>
          obtain ⟨q1, r1, rfl, rfl, hi1, hr1⟩ := hrel
          have hq1 := part_q hi1.out hp hW0
          by_cases hge : W ≤ r1
          · have HS := Lib.hid (part_sub hi1.out hge)
            go_wp2
            go_round
            case rel => exact ⟨q1 + 1, r1 - W, by go_num, by go_num, HS, by omega⟩
            case measure => simp [intOf]; try omega
          · go_wp2
            go_round
            case rel => exact ⟨i, B2, q1, r1, by omega, hB2', rfl, rfl, rfl, hi1, by omega⟩
            case measure => have := HB2.out; simp [intOf]; try omega
      · have hone : T / 2 ^ i % 2 = 1 := by have : ¬ T / 2 ^ i % 2 = 0 := fun h => hz (hXz.2 h); omega
        have e := part_step1 hinv.out hone
        have hz' : ((X : Int) != 0) = true := by rw [bne_iff_ne]; omega
        have E := Lib.hid e
        clear hone
        clear e hXz hz hB hBi hinv
        go_wp2
        go_loop [7, 8] (fun a b => ∃ (q1 r1 : Nat), a = .int .i64 q1 ∧ b = .int .i64 r1 ∧ Hid (q1 * W + r1 = T / 2 ^ i * p) ∧ r1 ≤ 3 * W) (fun _ b => (intOf b).toNat)
        case atStart => exact ⟨2 * q, 2 * r + p, by go_num, by go_num, E, by omega⟩
        case round =>
          obtain ⟨q1, r1, rfl, rfl, hi1, hr1⟩ := hrel
          have hq1 := part_q hi1.out hp hW0
          by_cases hge : W ≤ r1
          · have HS := Lib.hid (part_sub hi1.out hge)
            go_wp2
            go_round
            case rel => exact ⟨q1 + 1, r1 - W, by go_num, by go_num, HS, by omega⟩
            case measure => simp [intOf]; try omega
          · go_wp2
            go_round
            case rel => exact ⟨i, B2, q1, r1, by omega, hB2', rfl, rfl, rfl, hi1, by omega⟩
            case measure => have := HB2.out; simp [intOf]; try omega
end Go.Proofs.Ytfhikdgdckfalaa

/- Share of the reference. -/
namespace Go.Proofs.Ytfhikdgdckfalaa
open Go.RowKit
set_option linter.unusedVariables false

set_option maxHeartbeats 4000000 in
set_option maxRecDepth 100000 in
theorem Given_ref {A : Option Addr} {n c : Nat} {ws : List Int} (t : Int) (w : World) (h : Ints w A n c ws) :
    Calls Try.prog 65 #[.int .i64 t, .slice A n c] w fun e w' => e = .returned (.int .i64 (ShareE t ws)) ∧ w = w' := by
  have HL := Lib.hid h.len
  have hcap := h.cap
  have hmax := h.max
  have H := Lib.hid h
  obtain ⟨x, hx⟩ : ∃ x, ShareE t ws = x := ⟨_, rfl⟩
  rw [hx]
  unfold ShareE at hx
  rw [HL.out] at hx
  have HX := Lib.hid hx
  clear hx h
  by_cases c1 : 10000 < (n : Int)
  · go_enter Try.func65, Try.ntmps65
    go_wp2
    go_ret
    exact ⟨ret_i (by rw [← HX.out, if_pos (by omega)]), rfl⟩
  by_cases c2 : t < 0
  · go_enter Try.func65, Try.ntmps65
    go_wp2
    go_ret
    exact ⟨ret_i (by rw [← HX.out, if_neg (by omega), if_pos (by omega)]), rfl⟩
  by_cases c3 : 1125899906842624 < t
  · go_enter Try.func65, Try.ntmps65
    go_wp2
    go_ret
    exact ⟨ret_i (by rw [← HX.out, if_neg (by omega), if_pos (by omega)]), rfl⟩
  replace HX : Hid ((if inB 1125899906842624 ws = false then 2 else if 1152921504606846976 < sumL ws then 5 else if sumL ws = 0 then 16 else 0) = x) := by
    have := HX.out
    rw [if_neg (by omega), if_neg (by omega)] at this
    exact this
  go_enter Try.func65, Try.ntmps65
  go_wp2
  go_loop [5] (fun i => ∃ k : Nat, k ≤ n ∧ i = .int .i64 k ∧ ∀ j, j < k → badB 1125899906842624 (el ws j) = false) (fun i => n - (intOf i).toNat)
  case atStart => exact ⟨0, Nat.zero_le _, rfl, fun j hj => absurd hj (by omega)⟩
  case round =>
    obtain ⟨k, hk, rfl, hno⟩ := hrel
    have HN := Lib.hid hno
    clear hno
    by_cases hlt : k < n
    · obtain ⟨ad, rfl, hl, hc⟩ := H.out.at_ hlt
      have S1 := @in_step 1125899906842624 ws k HN.out
      have S2 := @in_low 1125899906842624 ws k (by rw [HL.out]; exact hlt)
      have S3 := @in_high 1125899906842624 ws k (by rw [HL.out]; exact hlt)
      have HS1 := Lib.hid S1
      have HS2 := Lib.hid S2
      have HS3 := Lib.hid S3
      clear S1 S2 S3
      generalize el ws k = y at *
      by_cases b0 : y < 0
      · go_wp2
        go_ret
        exact ⟨ret_i (by rw [← HX.out, if_pos (HS2.out b0)]), rfl⟩
      · by_cases b1 : 1125899906842624 < y
        · go_wp2
          go_ret
          exact ⟨ret_i (by rw [← HX.out, if_pos (HS3.out b1)]), rfl⟩
        · go_wp2
          go_round
          case rel => exact ⟨k + 1, by omega, by go_num, HS1.out (by omega) (by omega)⟩
          case measure => simp [intOf]; try omega
    · obtain rfl : k = n := by omega
      have hin := in_all (fun j hj => HN.out j (by rw [HL.out] at hj; omega))
      have HX2 : Hid ((if 1152921504606846976 < sumL ws then 5 else if sumL ws = 0 then 16 else 0) = x) := by
        have := HX.out
        rw [hin, if_neg (by decide)] at this
        exact this
      have HIN := Lib.hid hin
      clear hin
      go_wp2
      go_loop [6, 7] (fun u i => ∃ (j : Nat) (s : Int), j ≤ k ∧ i = .int .i64 j ∧ u = .int .i64 s ∧ Hid (s = sumF (el ws) j) ∧ 0 ≤ s ∧ s ≤ 1152921504606846976) (fun _ i => k - (intOf i).toNat)
      case atStart => exact ⟨0, 0, Nat.zero_le _, rfl, rfl, by rfl, by omega, by omega⟩
      case round =>
        obtain ⟨j, s, hj, rfl, rfl, hs, hs0, hs1⟩ := hrel
        by_cases hlt2 : j < k
        · obtain ⟨ad, rfl, hl, hc⟩ := H.out.at_ hlt2
          obtain ⟨y0, y1⟩ := inB_el HIN.out (show j < ws.length by rw [HL.out]; exact hlt2)
          have hp := (part_bd HIN.out (show j + 1 ≤ ws.length by rw [HL.out]; omega)).2
          rw [sumF, ← hs.out] at hp
          have HP := Lib.hid hp
          have HS : Hid (s + el ws j = sumF (el ws) (j + 1)) := Lib.hid (by rw [sumF, hs.out])
          clear hp
          generalize el ws j = y at *
          by_cases hbig : 1152921504606846976 < s + y
          · go_wp2
            go_ret
            exact ⟨ret_i (by rw [← HX2.out, if_pos (by have := HP.out; omega)]), rfl⟩
          · go_wp2
            go_round
            case rel => exact ⟨j + 1, s + y, by omega, by go_num, rfl, HS, by omega, by omega⟩
            case measure => simp [intOf]; try omega
        · obtain rfl : j = k := by omega
          have HE : Hid (s = sumL ws) := Lib.hid (by rw [hs.out]; unfold sumL; rw [HL.out])
          by_cases hz : s = 0
          · have hz' : ((s : Int) == 0) = true := by rw [beq_iff_eq]; exact hz
            have HZ := Lib.hid hz
            clear hz
            go_wp2
            go_ret
            exact ⟨ret_i (by rw [← HX2.out, ← HE.out, if_neg (by omega), if_pos HZ.out]), rfl⟩
          · have hz' : ((s : Int) == 0) = false := by rw [beq_eq_false_iff_ne]; exact hz
            have HZ := Lib.hid hz
            clear hz
            go_wp2
            go_ret
            exact ⟨ret_i (by rw [← HX2.out, ← HE.out, if_neg (by omega), if_neg HZ.out]), rfl⟩

set_option maxHeartbeats 4000000 in
set_option maxRecDepth 100000 in
theorem Share_inR {A : Option Addr} {n c : Nat} {ws : List Int} (t : Int) (w : World) (h : Ints w A n c ws) (hok : ShareOk t ws) :
    Calls Try.prog 46 #[.int .i64 t, .slice A n c] w (RetL (shL t ws) 0 w) := by
  have hlen := h.len
  have HL := Lib.hid hlen
  have hcap := h.cap
  have hmax := h.max
  have H := Lib.hid h
  have HOK := Lib.hid hok
  have d2 := hok.t0
  have d3 := hok.t1
  have hg := Given_ref t w h
  rw [shareE_ok.2 hok] at hg
  obtain ⟨T, rfl⟩ : ∃ T : Nat, t = T := ⟨t.toNat, by omega⟩
  have hn : n ≤ 10000 := by have := hok.len; omega
  have HG := Lib.hid hg
  clear hlen hok h hg
  go_enter Try.func46, Try.ntmps46
  go_wp2_with fail
  refine HG.out.mono ?_
  rintro e w' ⟨rfl, rfl⟩
  go_wp2
  go_loop [7, 8] (fun u i => ∃ k : Nat, k ≤ n ∧ i = .int .i64 k ∧ u = .int .i64 (sumF (el ws) k)) (fun _ i => n - (intOf i).toNat)
  case atStart => exact ⟨0, Nat.zero_le _, rfl, rfl⟩
  case round =>
    obtain ⟨k, hk, rfl, rfl⟩ := hrel
    by_cases hlt : k < n
    · obtain ⟨ad, rfl, hl, hc⟩ := H.out.at_ hlt
      have hy := inB_el HOK.out.ok (show k < ws.length by rw [HL.out]; exact hlt)
      have hp0 := part_bd HOK.out.ok (show k ≤ ws.length by rw [HL.out]; omega)
      have hp1 := part_bd HOK.out.ok (show k + 1 ≤ ws.length by rw [HL.out]; omega)
      have hs1 := HOK.out.s1
      have HS : Hid (sumF (el ws) (k + 1) = sumF (el ws) k + el ws k) := Lib.hid rfl
      rw [show sumF (el ws) (k + 1) = sumF (el ws) k + el ws k from rfl] at hp1
      obtain ⟨y0, y1⟩ := hy
      obtain ⟨p0, p1⟩ := hp0
      obtain ⟨p2, p3⟩ := hp1
      go_wp2
      go_round
      case rel => exact ⟨k + 1, by omega, by go_num, ret_v HS.out.symm⟩
      case measure => simp [intOf]; try omega
    · obtain rfl : k = n := by omega
      have hs0 := HOK.out.s0
      have hs1 := HOK.out.s1
      have hS : sumF (el ws) k = sumL ws := by unfold sumL; rw [HL.out]
      rw [hS]
      clear hS
      obtain ⟨S, hSS⟩ : ∃ S : Nat, sumL ws = S := ⟨(sumL ws).toNat, by omega⟩
      rw [hSS] at hs0 hs1 ⊢
      have HSS := Lib.hid hSS
      clear hSS
      go_wp2
      go_loopw [9, 10, 11, 12] (fun v f b i wr => ∃ (k' F q : Nat), k' ≤ k ∧ i = .int .i64 k' ∧ f = .int .i64 F ∧ b = .int .i64 q ∧ Hid ((F : Int) = sumF (el ws) k') ∧ Hid ((q : Int) = T * sumF (el ws) k' / sumL ws) ∧ F ≤ S ∧ q ≤ T ∧ Own wr w.heap.size v (fl k' (shF T ws)) ∧ Below w.heap.size w wr) (fun _ _ _ i _ => k - (intOf i).toNat)
      case atStart => exact ⟨0, 0, 0, Nat.zero_le _, rfl, rfl, rfl, by unfold Hid; simp [sumF], by unfold Hid; simp [sumF], by omega, by omega, Own.nil _ _, Below.refl _ _⟩
      case round =>
        obtain ⟨j, F, q, hj, rfl, rfl, rfl, hF, hq, hFS, hqT, hown, hbe⟩ := hrel
        have HO := Lib.hid hown
        have HB := Lib.hid hbe
        by_cases hlt2 : j < k
        · obtain ⟨ad, rfl, hl, hc⟩ := (H.out.below hbe).at_ hlt2
          have hy := inB_el HOK.out.ok (show j < ws.length by rw [HL.out]; exact hlt2)
          have hp1 := part_bd HOK.out.ok (show j + 1 ≤ ws.length by rw [HL.out]; omega)
          have hqb := qk_bd HOK.out (show j + 1 ≤ ws.length by rw [HL.out]; omega)
          have hqm := qk_mono HOK.out (show j < ws.length by rw [HL.out]; exact hlt2)
          rw [← hq.out] at hqm
          have hf1 : (F : Int) + el ws j = sumF (el ws) (j + 1) := by rw [hF.out]; rfl
          obtain ⟨F1, hF1⟩ : ∃ F1 : Nat, sumF (el ws) (j + 1) = F1 := ⟨(sumF (el ws) (j + 1)).toNat, by omega⟩
          have hFS1 : F1 ≤ S := by have := hp1.2; rw [HSS.out, hF1] at this; omega
          have hq1 : ((T : Int) * sumF (el ws) (j + 1) / sumL ws) = ((T * F1 / S : Nat) : Int) := by rw [hF1, HSS.out]; norm_cast
          rw [hF1] at hf1
          rw [hq1] at hqb hqm
          have HF1 := Lib.hid hF1
          have HQ1 := Lib.hid hq1
          have c1 := fun W => Part_ref T F1 S (by omega) hFS1 (by omega) (by omega) W
          generalize T * F1 / S = q1 at *
          have C1 := Lib.hid c1
          obtain ⟨y0, y1⟩ := hy
          obtain ⟨qb0, qb1⟩ := hqb
          clear c1 hF1 hq1 hp1 hown hbe
          generalize el ws j = y at *
          go_wp2_with fail
          refine (C1.out _).mono ?_
          rintro e w1 ⟨rfl, rfl⟩
          go_wp2_with (at_builtin; refine wpList_append_int _ w.heap.size _ (fl j (shF T ws)) ((q1 : Int) - q) rfl _ _ rfl rfl rfl HO.out HB.out.size (by rw [fl_length]; omega) (by omega) ?_)
          intro v' w2 ho hb
          have R1 := Lib.hid (sh_step ho hq.out HQ1.out.symm)
          have R2 := Lib.hid (HB.out.trans hb)
          have R3 : Hid ((F1 : Int) = sumF (el ws) (j + 1)) := Lib.hid HF1.out.symm
          have R4 : Hid ((q1 : Int) = T * sumF (el ws) (j + 1) / sumL ws) := Lib.hid HQ1.out.symm
          clear ho hb
          go_wp2
          go_roundw
          case rel => exact ⟨j + 1, F1, q1, by omega, by go_num, rfl, rfl, R3, R4, hFS1, by omega, R1.out, R2.out⟩
          case measure => simp [intOf]; try omega
        · obtain rfl : j = k := by omega
          clear hown hbe
          go_wp2
          go_returns
          have := RetL.own (x := 0) HO.out HB.out
          unfold shL
          rw [HL.out]
          exact this

theorem Share_ref {A : Option Addr} {n c : Nat} {ws : List Int} (t : Int) (w : World) (h : Ints w A n c ws) :
    Calls Try.prog 46 #[.int .i64 t, .slice A n c] w (RetL (ShareV t ws).1 (ShareV t ws).2 w) := by
  by_cases hok : ShareOk t ws
  · rw [shareV_ok hok]; exact Share_inR t w h hok
  · rw [shareV_no hok]
    have hg := Given_ref t w h
    have hne : ¬ ShareE t ws = 0 := fun e => hok (shareE_ok.1 e)
    generalize ShareE t ws = x at *
    have hx : ((x : Int) != 0) = true := by rw [bne_iff_ne]; exact hne
    have HG := Lib.hid hg
    clear hg hne h
    go_enter Try.func46, Try.ntmps46
    go_wp2_with fail
    refine HG.out.mono ?_
    rintro e w' ⟨rfl, rfl⟩
    go_wp2
    go_returns
    exact RetL.none_ (Below.refl _ _)
end Go.Proofs.Ytfhikdgdckfalaa
