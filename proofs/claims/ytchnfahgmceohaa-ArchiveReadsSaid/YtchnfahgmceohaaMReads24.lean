/- Read of the program. -/
import Derived.Test.YtchnfahgmceohaaMReads23
import Derived.Test.YtchnfahgmceohaaMReads15

namespace Go.Proofs.Ytchnfahgmceohaa
open Go.RowKit
set_option linter.unusedVariables false

def readV (bs : List Int) (k a b : Int) : SerD × Int :=
  if ¬ (decL bs).2 = 0 then (zeroS, (decL bs).2)
  else if k < 0 ∨ ((decL bs).1.length : Int) ≤ k then (zeroS, 2)
  else winV (sl (decL bs).1 k.toNat).f (sl (decL bs).1 k.toNat).st (sl (decL bs).1 k.toNat).ds a b

theorem ZBox.below {w w' : World} {g : Nat} (h : ZBox w g) {B : Nat} (hb : Below B w w') (hg : g < B) : ZBox w' g :=
  ⟨h.b.below hb hg, fun i => (hb.frozen (p := ⟨g, i, none⟩) hg).trans (h.f i)⟩
theorem ZBox.cells {w : World} {g : Nat} (h : ZBox w g) : w.cell? ⟨g, 0, none⟩ = some (.int .i64 0) ∧ w.cell? ⟨g, 1, none⟩ = some (.int .i64 0) ∧ w.cell? ⟨g, 2, none⟩ = some (.slice none 0 0) ∧ w.frozen? ⟨g, 0, none⟩ = false ∧ w.frozen? ⟨g, 1, none⟩ = false ∧ w.frozen? ⟨g, 2, none⟩ = false ∧ g < w.heap.size := ⟨h.b.c0, h.b.c1, h.b.c2, h.f 0, h.f 1, h.f 2, h.b.lt⟩

set_option maxRecDepth 100000 in
set_option maxHeartbeats 4000000 in
theorem Read_any {A : Option Addr} {n c : Nat} {bs : List Int} (k a b : Int) (w : World) (h : Byts w A n c bs) (hk : -9223372036854775808 ≤ k ∧ k ≤ 9223372036854775807) (ha : -9223372036854775808 ≤ a ∧ a ≤ 9223372036854775807) (hb : -9223372036854775808 ≤ b ∧ b ≤ 9223372036854775807) :
    Calls Try.prog 27 #[.slice A n c, .int .i64 k, .int .i64 a, .int .i64 b] w (RetSer (readV bs k a b) w) := by
  have hb0 : Below w.heap.size w (w.alloc (serO 0 0 none 0 0)) := (Below.refl _ _).alloc (Nat.le_refl _) _
  have dc := Decode_any _ (h.below hb0)
  have hZ0 : ZBox (w.alloc (serO 0 0 none 0 0)) w.heap.size := ⟨SBox.made _ 0 0 none 0 0, fun i => World.frozen?_alloc_new _ _ _ _⟩
  have Z0 := Lib.hid hZ0
  have B0 := Lib.hid hb0
  have hfew := decL_few bs
  obtain ⟨V, hV⟩ : ∃ V, readV bs k a b = V := ⟨_, rfl⟩
  rw [hV]
  unfold readV at hV
  generalize decL bs = D at *
  obtain ⟨xs, er⟩ := D
  dsimp only at hV hfew
  have DC := Lib.hid dc
  clear dc h hb0 hZ0
  have fin : ∀ (x : Int) (W : World), ZBox W w.heap.size → Below w.heap.size w W → Hid ((((W.setCell ⟨w.heap.size, 0, none⟩ (.int .i64 0)).setCell ⟨w.heap.size, 1, none⟩ (.int .i64 0)).setCell ⟨w.heap.size, 2, none⟩ (.slice none 0 0)).cell? ⟨w.heap.size, 0, none⟩ = some (.int .i64 0) ∧
      (((W.setCell ⟨w.heap.size, 0, none⟩ (.int .i64 0)).setCell ⟨w.heap.size, 1, none⟩ (.int .i64 0)).setCell ⟨w.heap.size, 2, none⟩ (.slice none 0 0)).cell? ⟨w.heap.size, 1, none⟩ = some (.int .i64 0) ∧
      (((W.setCell ⟨w.heap.size, 0, none⟩ (.int .i64 0)).setCell ⟨w.heap.size, 1, none⟩ (.int .i64 0)).setCell ⟨w.heap.size, 2, none⟩ (.slice none 0 0)).cell? ⟨w.heap.size, 2, none⟩ = some (.slice none 0 0) ∧
      RetSer (zeroS, x) w (.returned (.tuple #[serA 0 0 none 0 0, .int .i64 x])) (((W.setCell ⟨w.heap.size, 0, none⟩ (.int .i64 0)).setCell ⟨w.heap.size, 1, none⟩ (.int .i64 0)).setCell ⟨w.heap.size, 2, none⟩ (.slice none 0 0))) := fun x W z hB => Lib.hid (by
    obtain ⟨q0, q1, q2⟩ := stored3 (.int .i64 0) (.int .i64 0) (.slice none 0 0) z.b.c0 z.b.c1 z.b.c2
    exact ⟨q0, q1, q2, none, 0, 0, rfl, Ints.nil _, ((hB.setCell (p := ⟨w.heap.size, 0, none⟩) (Nat.le_refl _) (.int .i64 0)).setCell (p := ⟨w.heap.size, 1, none⟩) (Nat.le_refl _) (.int .i64 0)).setCell (p := ⟨w.heap.size, 2, none⟩) (Nat.le_refl _) (.slice none 0 0), fun ad e => by cases e⟩)
  have FIN := Lib.hid fin
  clear fin
  by_cases her : er = 0
  · subst her
    rw [if_neg (by simp)] at hV
    by_cases hkr : k < 0 ∨ (xs.length : Int) ≤ k
    · rw [if_pos hkr] at hV
      subst hV
      have hk2 : k < 0 ∨ (¬ k < 0 ∧ (xs.length : Int) ≤ k) := by omega
      clear hkr hfew
      rcases hk2 with h1 | ⟨h1, h2⟩ <;> (
        go_enter Try.func27, Try.ntmps27
        go_wp2_with fail
        refine (DC.out).mono ?_
        rintro e w1 ⟨A2, n2, c2, rfl, s2, b1⟩
        obtain rfl : n2 = xs.length := s2.len.symm
        have hz := Z0.out.below b1 Z0.out.b.lt
        have F := FIN.out 2 w1 hz (below_then B0.out b1 B0.out.size)
        obtain ⟨z0, z1, z2, f0, f1, f2, zl⟩ := hz.cells
        clear hz b1 s2
        go_wp2
        have q := F.out
        generalize ((w1.setCell ⟨w.heap.size, 0, none⟩ (.int .i64 0)).setCell ⟨w.heap.size, 1, none⟩ (.int .i64 0)).setCell ⟨w.heap.size, 2, none⟩ (.slice none 0 0) = W3 at *
        obtain ⟨q0, q1, q2, q3⟩ := q
        exact bodyPost_ret (v := .tuple #[serA 0 0 none 0 0, .int .i64 2]) (by simp [results, Try.results27, go_sem, q0, q1, q2]) rfl q3)
    · rw [if_neg hkr] at hV
      obtain ⟨j, hj⟩ := Int.eq_ofNat_of_zero_le (show 0 ≤ k by omega)
      subst hj
      have hjl : j < xs.length := by omega
      rw [Int.toNat_natCast] at hV
      have wc := fun W A n c (I : Ints W A n c (sl xs j).ds) => Window_calls (sl xs j).f (sl xs j).st a b W I ha hb
      rw [hV] at wc
      have WC := Lib.hid wc
      clear wc hV hkr
      go_enter Try.func27, Try.ntmps27
      go_wp2_with fail
      refine (DC.out).mono ?_
      rintro e w1 ⟨A2, n2, c2, rfl, s2, b1⟩
      obtain rfl : n2 = xs.length := s2.len.symm
      have hcap := s2.cap
      have hmax := s2.max
      obtain ⟨ad, rfl, hl, ⟨A3, n3, c3, q0, q1, q2, qi⟩⟩ := s2.at_ hjl
      have wc := WC.out w1 A3 n3 c3 qi
      have WC1 := Lib.hid wc
      have Z1 : Hid (ZBox w1 w.heap.size) := Lib.hid (Z0.out.below b1 Z0.out.b.lt)
      have B1 := Lib.hid (below_then B0.out b1 B0.out.size)
      have hsz : w.heap.size < w1.heap.size := Z1.out.b.lt
      generalize (sl xs j).f = sf at *
      generalize (sl xs j).st = st at *
      clear wc b1 s2 qi
      go_wp2_with fail
      refine (WC1.out).mono ?_
      rintro e w2 ⟨A4, n4, c4, rfl, i4, b4, g4⟩
      have hz := Z1.out.below b4 Z1.out.b.lt
      obtain ⟨z0, z1, z2, f0, f1, f2, zl⟩ := hz.cells
      have q := stored3 (.int .i64 V.1.f) (.int .i64 V.1.st) (.slice A4 n4 c4) z0 z1 z2
      have hB3 := below_then B1.out b4 B1.out.size
      have hbw := ((hB3.setCell (p := ⟨w.heap.size, 0, none⟩) (Nat.le_refl _) (.int .i64 V.1.f)).setCell (p := ⟨w.heap.size, 1, none⟩) (Nat.le_refl _) (.int .i64 V.1.st)).setCell (p := ⟨w.heap.size, 2, none⟩) (Nat.le_refl _) (.slice A4 n4 c4)
      have hi6 := ((i4.far (p := ⟨w.heap.size, 0, none⟩) (fun ad e => by have := g4 ad e; show ad.block ≠ w.heap.size; omega) (.int .i64 V.1.f)).far (p := ⟨w.heap.size, 1, none⟩) (fun ad e => by have := g4 ad e; show ad.block ≠ w.heap.size; omega) (.int .i64 V.1.st)).far (p := ⟨w.heap.size, 2, none⟩) (fun ad e => by have := g4 ad e; show ad.block ≠ w.heap.size; omega) (.slice A4 n4 c4)
      have G4 := Lib.hid g4
      have Q := Lib.hid q
      have HBW := Lib.hid hbw
      have HI6 := Lib.hid hi6
      clear q hbw hB3 hi6 hz i4 b4 g4
      go_wp2
      have q := Q.out
      have hbw := HBW.out
      have hi6 := HI6.out
      generalize ((w2.setCell ⟨w.heap.size, 0, none⟩ (.int .i64 V.1.f)).setCell ⟨w.heap.size, 1, none⟩ (.int .i64 V.1.st)).setCell ⟨w.heap.size, 2, none⟩ (.slice A4 n4 c4) = W3 at *
      obtain ⟨q0, q1, q2⟩ := q
      refine bodyPost_ret (v := .tuple #[serA V.1.f V.1.st A4 n4 c4, .int .i64 V.2]) (by simp [results, Try.results27, go_sem, q0, q1, q2]) rfl ?_
      exact ⟨A4, n4, c4, rfl, hi6, hbw, fun ad e => by have := G4.out ad e; omega⟩
  · rw [if_pos her] at hV
    subst hV
    have heq : (er == 0) = false := by simp [her]
    clear hfew her
    go_enter Try.func27, Try.ntmps27
    go_wp2_with fail
    refine (DC.out).mono ?_
    rintro e w1 ⟨A2, n2, c2, rfl, s2, b1⟩
    have hz := Z0.out.below b1 Z0.out.b.lt
    have F := FIN.out er w1 hz (below_then B0.out b1 B0.out.size)
    obtain ⟨z0, z1, z2, f0, f1, f2, zl⟩ := hz.cells
    clear hz b1 s2
    go_wp2
    have q := F.out
    generalize ((w1.setCell ⟨w.heap.size, 0, none⟩ (.int .i64 0)).setCell ⟨w.heap.size, 1, none⟩ (.int .i64 0)).setCell ⟨w.heap.size, 2, none⟩ (.slice none 0 0) = W3 at *
    obtain ⟨q0, q1, q2, q3⟩ := q
    exact bodyPost_ret (v := .tuple #[serA 0 0 none 0 0, .int .i64 er]) (by simp [results, Try.results27, go_sem, q0, q1, q2]) rfl q3
theorem Read_calls {A : Option Addr} {n c : Nat} {bs : List Int} (k a b : Int) (w : World) (h : Byts w A n c bs) (hA : ∀ ad, A = some ad → ad.block < w.heap.size) (hk : -9223372036854775808 ≤ k ∧ k ≤ 9223372036854775807) (ha : -9223372036854775808 ≤ a ∧ a ≤ 9223372036854775807) (hb : -9223372036854775808 ≤ b ∧ b ≤ 9223372036854775807) :
    Calls Try.prog 27 #[.slice A n c, .int .i64 k, .int .i64 a, .int .i64 b] w (RetSer (readV bs k a b) w) := Read_any k a b w h hk ha hb
end Go.Proofs.Ytchnfahgmceohaa

/- A number read at an index, as the reference says it. No program in sight. -/
namespace Go.Proofs.Ytchnfahgmceohaa
open Go.RowKit
set_option linter.unusedVariables false

theorem frst_ge {bs : List Int} : ∀ {k : Nat}, k < frst bs → ¬ el bs k < 128 := by
  induction bs with
  | nil => intro k h; exact absurd h (by simp [frst])
  | cons z r ih =>
    intro k h
    rw [frst] at h
    split at h
    · omega
    · match k with
      | 0 => show ¬ z < 128; assumption
      | k + 1 => exact ih (by omega)
theorem frst_lt128 {bs : List Int} (h : frst bs < bs.length) : el bs (frst bs) < 128 := by
  induction bs with
  | nil => simp at h
  | cons z r ih =>
    rw [frst] at h ⊢
    split
    · rename_i hz; exact hz
    · rename_i hz; rw [if_neg hz] at h; exact ih (by simpa using h)
theorem el_dropR (bs : List Int) (k j : Nat) : el (bs.drop k) j = el bs (k + j) := by
  unfold el; rw [List.getD_eq_getElem?_getD, List.getD_eq_getElem?_getD, List.getElem?_drop]
theorem valL_snoc : ∀ (l : List Int) (d : Int), valL (l ++ [d]) = valL l + 128 ^ l.length * (d % 128).toNat
  | [], d => by simp [valL]
  | z :: r, d => by
    rw [List.cons_append, valL, valL, valL_snoc r d, List.length_cons, Nat.pow_succ, Nat.mul_add]
    have : 128 * (128 ^ r.length * (d % 128).toNat) = 128 ^ r.length * 128 * (d % 128).toNat := by
      rw [Nat.mul_comm (128 ^ r.length) 128, Nat.mul_assoc]
    omega
theorem valL_take {S : List Int} {t : Nat} (h : t < S.length) : valL (S.take (t + 1)) = valL (S.take t) + 128 ^ t * (el S t % 128).toNat := by
  rw [take_succ_el S t h, valL_snoc, List.length_take, Nat.min_eq_left (by omega)]
theorem valL_take_lt (S : List Int) (t : Nat) : valL (S.take t) < 128 ^ t := by
  refine Nat.lt_of_lt_of_le (valL_lt _) ?_
  exact Nat.pow_le_pow_right (by decide) (by rw [List.length_take]; omega)
/-- What Get of the reference hands back at the index i. -/
def getV (bs : List Int) (i : Nat) : Int × Int × Int :=
  if (getN (bs.drop i)).2.1 = 0 then ((((getN (bs.drop i)).1 : Nat) : Int), (bs.length : Int) - (getN (bs.drop i)).2.2.length, 0) else (0, 0, (getN (bs.drop i)).2.1)
theorem getV_end {bs : List Int} {i : Nat} (h : (bs.drop i).length ≤ frst (bs.drop i)) : getV bs i = (0, 0, 8) := by
  have hg : getN (bs.drop i) = (0, 8, bs.drop i) := by unfold getN; rw [if_pos h]
  unfold getV
  rw [hg]
  rfl
theorem big_iff {S : List Int} {k : Nat} (hr : ∀ j, 0 ≤ el S j ∧ el S j ≤ 255) (hk : k ≤ 8) (hl : k < S.length) (hz : el S k < 128) : 1152921504606846975 < valL (S.take (k + 1)) ↔ k = 8 ∧ ¬ el S k < 16 := by
  have h1 := valL_take hl
  have h2 := valL_take_lt S k
  have h3 := hr k
  obtain ⟨d, hd⟩ := Int.eq_ofNat_of_zero_le h3.1
  have hd2 : (el S k % 128).toNat = d := by omega
  rw [hd2] at h1
  by_cases h8 : k = 8
  · subst h8
    have : (128 : Nat) ^ 8 = 72057594037927936 := by decide
    rw [this] at h1 h2
    omega
  · have h4 : valL (S.take (k + 1)) < 128 ^ (k + 1) := valL_take_lt S (k + 1)
    have h5 : (128 : Nat) ^ (k + 1) ≤ 128 ^ 8 := Nat.pow_le_pow_right (by decide) (by omega)
    have : (128 : Nat) ^ 8 = 72057594037927936 := by decide
    constructor
    · intro h; omega
    · intro h; omega
theorem getV_form {bs : List Int} {i : Nat} (hr : ∀ j, 0 ≤ el (bs.drop i) j ∧ el (bs.drop i) j ≤ 255) (hl : frst (bs.drop i) < (bs.drop i).length)
    (h : 8 < frst (bs.drop i) ∨ (frst (bs.drop i) = 8 ∧ ¬ el (bs.drop i) (frst (bs.drop i)) < 16) ∨ (0 < frst (bs.drop i) ∧ el (bs.drop i) (frst (bs.drop i)) = 0)) : getV bs i = (0, 0, 7) := by
  by_cases h1 : 8 < frst (bs.drop i) ∨ (0 < frst (bs.drop i) ∧ el (bs.drop i) (frst (bs.drop i)) = 0)
  · have hg : getN (bs.drop i) = (0, 7, (bs.drop i).drop (frst (bs.drop i) + 1)) := by
      unfold getN
      rw [if_neg (by omega), if_pos h1]
    unfold getV
    rw [hg]
    rfl
  · have hg : getN (bs.drop i) = (0, 7, (bs.drop i).drop (frst (bs.drop i) + 1)) := by
      unfold getN
      rw [if_neg (by omega), if_neg h1, if_pos ((big_iff hr (by omega) hl (frst_lt128 hl)).2 (by omega))]
    unfold getV
    rw [hg]
    rfl
theorem getV_ok {bs : List Int} {i : Nat} (hr : ∀ j, 0 ≤ el (bs.drop i) j ∧ el (bs.drop i) j ≤ 255) (hi : i ≤ bs.length) (hl : frst (bs.drop i) < (bs.drop i).length)
    (h : ¬ (8 < frst (bs.drop i) ∨ (frst (bs.drop i) = 8 ∧ ¬ el (bs.drop i) (frst (bs.drop i)) < 16) ∨ (0 < frst (bs.drop i) ∧ el (bs.drop i) (frst (bs.drop i)) = 0))) :
    getV bs i = (((valL ((bs.drop i).take (frst (bs.drop i) + 1)) : Nat) : Int), ((i + frst (bs.drop i) + 1 : Nat) : Int), 0) := by
  have hg : getN (bs.drop i) = (valL ((bs.drop i).take (frst (bs.drop i) + 1)), 0, (bs.drop i).drop (frst (bs.drop i) + 1)) := by
    unfold getN
    rw [if_neg (by omega), if_neg (by omega), if_neg (fun hb => h (.inr (.inl ((big_iff hr (by omega) hl (frst_lt128 hl)).1 hb))))]
  have hll : (bs.drop i).length = bs.length - i := List.length_drop
  unfold getV
  rw [hg, if_pos rfl]
  simp only [List.length_drop]
  congr 2
  omega
end Go.Proofs.Ytchnfahgmceohaa
