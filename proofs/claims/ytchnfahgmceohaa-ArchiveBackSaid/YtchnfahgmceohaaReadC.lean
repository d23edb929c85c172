/- Read of the program. -/
import Derived.Test.YtchnfahgmceohaaApp
namespace Go.Proofs.Ytchnfahgmceohaa
open Go.RowKit
set_option linter.unusedVariables false

def readV (bs : List Int) (k a b : Int) : SerD × Int :=
  if ¬ (decL bs).2 = 0 then (zeroS, (decL bs).2)
  else if k < 0 ∨ ((decL bs).1.length : Int) ≤ k then (zeroS, 2)
  else winV (sl (decL bs).1 k.toNat).f (sl (decL bs).1 k.toNat).st (sl (decL bs).1 k.toNat).ds a b

theorem ZBox.below {w w' : World} {g : Nat} (h : ZBox w g) {B : Nat} (hb : Below B w w') (hg : g < B) : ZBox w' g :=
  ⟨h.b.below hb hg, fun i => (hb.frozen (p := ⟨g, i, none⟩) hg).trans (h.f i)⟩
theorem ZBox.cells {w : World} {g : Nat} (h : ZBox w g) : w.cell? ⟨g, 0, none⟩ = some (.int .i64 0) ∧ w.cell? ⟨g, 1, none⟩ = some (.int .i64 0) ∧ w.cell? ⟨g, 2, none⟩ = some (.slice none 0 0) ∧ w.frozen? ⟨g, 0, none⟩ = false ∧ w.frozen? ⟨g, 1, none⟩ = false ∧ w.frozen? ⟨g, 2, none⟩ = false ∧ g < w.heap.size := ⟨h.b.c0, h.b.c1, h.b.c2, h.f 0, h.f 1, h.f 2, h.b.lt⟩

set_option maxRecDepth 100000 in
set_option maxHeartbeats 4000000 in
theorem Read_any {A : Option Addr} {n c : Nat} {bs : List Int} (k a b : Int) (w : World) (h : Byts w A n c bs) (hk : -9223372036854775808 ≤ k ∧ k ≤ 9223372036854775807) (ha : -9223372036854775808 ≤ a ∧ a ≤ 9223372036854775807) (hb : -9223372036854775808 ≤ b ∧ b ≤ 9223372036854775807) :
    Calls Try.prog 27 #[.slice A n c, .int .i64 k, .int .i64 a, .int .i64 b] w (RetSer (readV bs k a b) w) := by
  have hb0 : Below w.heap.size w (w.alloc (serO 0 0 none 0 0)) := (Below.refl _ _).alloc (Nat.le_refl _) _
  have dc := Decode_any _ (h.below hb0)
  have hZ0 : ZBox (w.alloc (serO 0 0 none 0 0)) w.heap.size := ⟨SBox.made _ 0 0 none 0 0, fun i => World.frozen?_alloc_new _ _ _ _⟩
  have Z0 := Lib.hid hZ0
  have B0 := Lib.hid hb0
  have hfew := decL_few bs
  obtain ⟨V, hV⟩ : ∃ V, readV bs k a b = V := ⟨_, rfl⟩
  rw [hV]
  unfold readV at hV
  generalize decL bs = D at *
  obtain ⟨xs, er⟩ := D
  dsimp only at hV hfew
  have DC := Lib.hid dc
  clear dc h hb0 hZ0
  have fin : ∀ (x : Int) (W : World), ZBox W w.heap.size → Below w.heap.size w W → Hid ((((W.setCell ⟨w.heap.size, 0, none⟩ (.int .i64 0)).setCell ⟨w.heap.size, 1, none⟩ (.int .i64 0)).setCell ⟨w.heap.size, 2, none⟩ (.slice none 0 0)).cell? ⟨w.heap.size, 0, none⟩ = some (.int .i64 0) ∧
      (((W.setCell ⟨w.heap.size, 0, none⟩ (.int .i64 0)).setCell ⟨w.heap.size, 1, none⟩ (.int .i64 0)).setCell ⟨w.heap.size, 2, none⟩ (.slice none 0 0)).cell? ⟨w.heap.size, 1, none⟩ = some (.int .i64 0) ∧
      (((W.setCell ⟨w.heap.size, 0, none⟩ (.int .i64 0)).setCell ⟨w.heap.size, 1, none⟩ (.int .i64 0)).setCell ⟨w.heap.size, 2, none⟩ (.slice none 0 0)).cell? ⟨w.heap.size, 2, none⟩ = some (.slice none 0 0) ∧
      RetSer (zeroS, x) w (.returned (.tuple #[serA 0 0 none 0 0, .int .i64 x])) (((W.setCell ⟨w.heap.size, 0, none⟩ (.int .i64 0)).setCell ⟨w.heap.size, 1, none⟩ (.int .i64 0)).setCell ⟨w.heap.size, 2, none⟩ (.slice none 0 0))) := fun x W z hB => Lib.hid (by
    obtain ⟨q0, q1, q2⟩ := stored3 (.int .i64 0) (.int .i64 0) (.slice none 0 0) z.b.c0 z.b.c1 z.b.c2
    exact ⟨q0, q1, q2, none, 0, 0, rfl, Ints.nil _, ((hB.setCell (p := ⟨w.heap.size, 0, none⟩) (Nat.le_refl _) (.int .i64 0)).setCell (p := ⟨w.heap.size, 1, none⟩) (Nat.le_refl _) (.int .i64 0)).setCell (p := ⟨w.heap.size, 2, none⟩) (Nat.le_refl _) (.slice none 0 0), fun ad e => by cases e⟩)
  have FIN := Lib.hid fin
  clear fin
  by_cases her : er = 0
  · subst her
    rw [if_neg (by simp)] at hV
    by_cases hkr : k < 0 ∨ (xs.length : Int) ≤ k
    · rw [if_pos hkr] at hV
      subst hV
      have hk2 : k < 0 ∨ (¬ k < 0 ∧ (xs.length : Int) ≤ k) := by omega
      clear hkr hfew
      rcases hk2 with h1 | ⟨h1, h2⟩ <;> (
        go_enter Try.func27, Try.ntmps27
        go_wp2_with fail
        refine (DC.out).mono ?_
        rintro e w1 ⟨A2, n2, c2, rfl, s2, b1⟩
        obtain rfl : n2 = xs.length := s2.len.symm
        have hz := Z0.out.below b1 Z0.out.b.lt
        have F := FIN.out 2 w1 hz (below_then B0.out b1 B0.out.size)
        obtain ⟨z0, z1, z2, f0, f1, f2, zl⟩ := hz.cells
        clear hz b1 s2
        go_wp2
        have q := F.out
        generalize ((w1.setCell ⟨w.heap.size, 0, none⟩ (.int .i64 0)).setCell ⟨w.heap.size, 1, none⟩ (.int .i64 0)).setCell ⟨w.heap.size, 2, none⟩ (.slice none 0 0) = W3 at *
        obtain ⟨q0, q1, q2, q3⟩ := q
        exact bodyPost_ret (v := .tuple #[serA 0 0 none 0 0, .int .i64 2]) (by simp [results, Try.results27, go_sem, q0, q1, q2]) rfl q3)
    · rw [if_neg hkr] at hV
      obtain ⟨j, hj⟩ := Int.eq_ofNat_of_zero_le (show 0 ≤ k by omega)
      subst hj
      have hjl : j < xs.length := by omega
      rw [Int.toNat_natCast] at hV
      have wc := fun W A n c (I : Ints W A n c (sl xs j).ds) => Window_calls (sl xs j).f (sl xs j).st a b W I ha hb
      rw [hV] at wc
      have WC := Lib.hid wc
      clear wc hV hkr
      go_enter Try.func27, Try.ntmps27
      go_wp2_with fail
      refine (DC.out).mono ?_
      rintro e w1 ⟨A2, n2, c2, rfl, s2, b1⟩
      obtain rfl : n2 = xs.length := s2.len.symm
      have hcap := s2.cap
      have hmax := s2.max
      obtain ⟨ad, rfl, hl, ⟨A3, n3, c3, q0, q1, q2, qi⟩⟩ := s2.at_ hjl
      have wc := WC.out w1 A3 n3 c3 qi
      have WC1 := Lib.hid wc
      have Z1 : Hid (ZBox w1 w.heap.size) := Lib.hid (Z0.out.below b1 Z0.out.b.lt)
      have B1 := Lib.hid (below_then B0.out b1 B0.out.size)
      have hsz : w.heap.size < w1.heap.size := Z1.out.b.lt
      generalize (sl xs j).f = sf at *
      generalize (sl xs j).st = st at *
      clear wc b1 s2 qi
      go_wp2_with fail
      refine (WC1.out).mono ?_
      rintro e w2 ⟨A4, n4, c4, rfl, i4, b4, g4⟩
      have hz := Z1.out.below b4 Z1.out.b.lt
      obtain ⟨z0, z1, z2, f0, f1, f2, zl⟩ := hz.cells
      have q := stored3 (.int .i64 V.1.f) (.int .i64 V.1.st) (.slice A4 n4 c4) z0 z1 z2
      have hB3 := below_then B1.out b4 B1.out.size
      have hbw := ((hB3.setCell (p := ⟨w.heap.size, 0, none⟩) (Nat.le_refl _) (.int .i64 V.1.f)).setCell (p := ⟨w.heap.size, 1, none⟩) (Nat.le_refl _) (.int .i64 V.1.st)).setCell (p := ⟨w.heap.size, 2, none⟩) (Nat.le_refl _) (.slice A4 n4 c4)
      have hi6 := ((i4.far (p := ⟨w.heap.size, 0, none⟩) (fun ad e => by have := g4 ad e; show ad.block ≠ w.heap.size; omega) (.int .i64 V.1.f)).far (p := ⟨w.heap.size, 1, none⟩) (fun ad e => by have := g4 ad e; show ad.block ≠ w.heap.size; omega) (.int .i64 V.1.st)).far (p := ⟨w.heap.size, 2, none⟩) (fun ad e => by have := g4 ad e; show ad.block ≠ w.heap.size; omega) (.slice A4 n4 c4)
      have G4 := Lib.hid g4
      have Q := Lib.hid q
      have HBW := Lib.hid hbw
      have HI6 := Lib.hid hi6
      clear q hbw hB3 hi6 hz i4 b4 g4
      go_wp2
      have q := Q.out
      have hbw := HBW.out
      have hi6 := HI6.out
      generalize ((w2.setCell ⟨w.heap.size, 0, none⟩ (.int .i64 V.1.f)).setCell ⟨w.heap.size, 1, none⟩ (.int .i64 V.1.st)).setCell ⟨w.heap.size, 2, none⟩ (.slice A4 n4 c4) = W3 at *
      obtain ⟨q0, q1, q2⟩ := q
      refine bodyPost_ret (v := .tuple #[serA V.1.f V.1.st A4 n4 c4, .int .i64 V.2]) (by simp [results, Try.results27, go_sem, q0, q1, q2]) rfl ?_
      exact ⟨A4, n4, c4, rfl, hi6, hbw, fun ad e => by have := G4.out ad e; omega⟩
  · rw [if_pos her] at hV
    subst hV
    have heq : (er == 0) = false := by simp [her]
    clear hfew her
    go_enter Try.func27, Try.ntmps27
    go_wp2_with fail
    refine (DC.out).mono ?_
    rintro e w1 ⟨A2, n2, c2, rfl, s2, b1⟩
    have hz := Z0.out.below b1 Z0.out.b.lt
    have F := FIN.out er w1 hz (below_then B0.out b1 B0.out.size)
    obtain ⟨z0, z1, z2, f0, f1, f2, zl⟩ := hz.cells
    clear hz b1 s2
    go_wp2
    have q := F.out
    generalize ((w1.setCell ⟨w.heap.size, 0, none⟩ (.int .i64 0)).setCell ⟨w.heap.size, 1, none⟩ (.int .i64 0)).setCell ⟨w.heap.size, 2, none⟩ (.slice none 0 0) = W3 at *
    obtain ⟨q0, q1, q2, q3⟩ := q
    exact bodyPost_ret (v := .tuple #[serA 0 0 none 0 0, .int .i64 er]) (by simp [results, Try.results27, go_sem, q0, q1, q2]) rfl q3
theorem Read_calls {A : Option Addr} {n c : Nat} {bs : List Int} (k a b : Int) (w : World) (h : Byts w A n c bs) (hA : ∀ ad, A = some ad → ad.block < w.heap.size) (hk : -9223372036854775808 ≤ k ∧ k ≤ 9223372036854775807) (ha : -9223372036854775808 ≤ a ∧ a ≤ 9223372036854775807) (hb : -9223372036854775808 ≤ b ∧ b ≤ 9223372036854775807) :
    Calls Try.prog 27 #[.slice A n c, .int .i64 k, .int .i64 a, .int .i64 b] w (RetSer (readV bs k a b) w) := Read_any k a b w h hk ha hb
end Go.Proofs.Ytchnfahgmceohaa
