/- The closure of series: it appends to the depths of a record. -/
import Derived.Test.YtchnfahgmceohaaMReads18
import Derived.Test.YtchnfahgmceohaaMReads06
import Derived.Test.YtchnfahgmceohaaMReads15
import Derived.Deep.RegionWith
import Derived.Deep.CutRange

namespace Go.Proofs.Ytchnfahgmceohaa
open Go.RowKit
set_option linter.unusedVariables false

/-- The record at block g that is being made: its depths are the call's own. -/
structure JS (f st : Int) (g : Nat) (w : World) (out : List Int) : Prop where
  c0 : w.cell? ⟨g, 0, none⟩ = some (.int .i64 f)
  c1 : w.cell? ⟨g, 1, none⟩ = some (.int .i64 st)
  fr : w.frozen? ⟨g, 2, none⟩ = false
  lt : g < w.heap.size
  o : ∃ v, w.cell? ⟨g, 2, none⟩ = some v ∧ Own w (g + 1) v out
theorem Ky.set2 {g t : Nat} {a w : World} (h : Ky g t a w) (u : Value) : Ky g t a (w.setCell ⟨g, 2, none⟩ u) :=
  h.trans ⟨rfl, rfl, rfl, by simp [World.setCell], fun k _ hne => Below.heap_setCell _ _ _ _ hne⟩
theorem JS.num {f st : Int} {g p : Nat} {w w' : World} {out : List Int} (h : JS f st g w out) (hg : p < g) (hw : w.grownBy w' (some p)) : JS f st g w' out := by
  obtain ⟨v, c, o⟩ := h.o
  have hl := h.lt
  have e : w'.heap[g]? = w.heap[g]? := hw.block g hl (by intro e; injection e with e; omega)
  have hc : ∀ i, w'.cell? ⟨g, i, none⟩ = w.cell? ⟨g, i, none⟩ := fun i => by unfold World.cell?; rw [e]
  have hf : ∀ i, w'.frozen? ⟨g, i, none⟩ = w.frozen? ⟨g, i, none⟩ := fun i => by unfold World.frozen?; rw [e]
  exact ⟨(hc 0).trans h.c0, (hc 1).trans h.c1, (hf 2).trans h.fr, Nat.lt_of_lt_of_le hl hw.size, v, (hc 2).trans c, ⟨o.row.kept (row := some p) hw (by
    rcases hv : v.ownBlock with _ | k
    · exact .inl rfl
    · refine .inr ?_
      intro e
      have := (o.row.lt k hv).1
      injection e with e
      omega), o.rng, o.few⟩⟩

set_option maxRecDepth 100000 in
set_option maxHeartbeats 1000000 in
theorem series1_calls (f st : Int) (g : Nat) (out : List Int) (v : Int) (t : Nat) (w : World) (h : JS f st g w out) (hv : -9223372036854775808 ≤ v ∧ v ≤ 9223372036854775807) (ht : (t : Int) ≤ 1000000) (hl : out.length ≤ 1000000) :
    Calls Try.prog 67 #[.int .i64 v, .int .i64 t, .pointer (some ⟨g, 0, none⟩)] w fun e w' => e = .returned (.tuple #[]) ∧ JS f st g w' (out ++ List.replicate t v) ∧ Ky g g w w' := by
  have H := Lib.hid h
  have hp := h.lt
  clear h
  go_enter Try.func67, Try.ntmps67
  go_wp2
  go_loopw [6] (fun i wr => ∃ k : Nat, k ≤ t ∧ i = .int .i64 k ∧ JS f st g wr (out ++ List.replicate k v) ∧ Ky g g w wr) (fun i _ => t - (intOf i).toNat)
  case atStart => exact ⟨0, Nat.zero_le _, rfl, by rw [List.replicate_zero, List.append_nil]; exact H.out, Ky.refl _ _ _⟩
  case round =>
    obtain ⟨k, hk, rfl, hj, hky⟩ := hrel
    have HK := Lib.hid hky
    have hsz : g + 1 ≤ wr.heap.size := Nat.le_trans hp hky.size
    have HJ := Lib.hid hj
    clear hky
    by_cases hlt : k < t
    · obtain ⟨cv, cc, ho⟩ := hj.o
      have cf := hj.fr
      obtain ⟨A, c, rfl⟩ := ho.slice
      obtain ⟨N, hN⟩ : ∃ N, (out ++ List.replicate k v).length = N := ⟨_, rfl⟩
      have hNl : N ≤ 2000000 := by rw [← hN]; simp; omega
      rw [hN] at cc ho
      have HO := Lib.hid ho
      have HE : Hid (out ++ (List.replicate k v ++ [v]) = out ++ List.replicate (k + 1) v) := Lib.hid (by rw [← List.replicate_succ'])
      have HCC := Lib.hid cc
      clear hj ho
      go_wp2_with (at_builtin; refine wpList_append_int wr (g + 1) _ (out ++ List.replicate k v) v rfl _ _ rfl rfl rfl HO.out hsz (by rw [hN]; omega) hv ?_)
      intro v' w1 ho1 hb1
      rw [HE.out] at ho1
      obtain ⟨A1, c1, rfl⟩ := ho1.slice
      obtain ⟨M, hM⟩ : ∃ M, (out ++ List.replicate (k + 1) v).length = M := ⟨_, rfl⟩
      rw [hM] at ho1
      have k0 := (hb1.cell (p := ⟨g, 0, none⟩) (Nat.lt_succ_self g)).trans HJ.out.c0
      have k1 := (hb1.cell (p := ⟨g, 1, none⟩) (Nat.lt_succ_self g)).trans HJ.out.c1
      have k2 := (hb1.cell (p := ⟨g, 2, none⟩) (Nat.lt_succ_self g)).trans HCC.out
      have kf := (hb1.frozen (p := ⟨g, 2, none⟩) (Nat.lt_succ_self g)).trans cf
      have q2 : Hid (JS f st g (w1.setCell ⟨g, 2, none⟩ (.slice A1 M c1)) (out ++ List.replicate (k + 1) v)) := Lib.hid
        ⟨by rw [World.cell?_setCell_other w1 _ _ _ (by simp)]; exact k0, by rw [World.cell?_setCell_other w1 _ _ _ (by simp)]; exact k1, by rw [World.frozen?_setCell]; exact kf,
          by have := hb1.size; simp [World.setCell]; omega, _, World.cell?_setCell_same w1 _ _ k2, ho1.setCell (p := ⟨g, 2, none⟩) (Nat.lt_succ_self g) _⟩
      have q3 := Lib.hid ((HK.out.trans (Ky.of_below hb1)).set2 (.slice A1 M c1))
      clear ho1 hb1 k0 k1 cf cc
      generalize hL : out ++ List.replicate (k + 1) v = L at *
      go_wp2
      go_roundw
      case rel => exact ⟨k + 1, by omega, by go_num, by rw [hL]; exact q2.out, q3.out⟩
      case measure => simp [intOf]; try omega
    · obtain rfl : k = t := by omega
      clear hj
      go_wp2
      go_returns
      exact ⟨rfl, HJ.out, HK.out⟩
end Go.Proofs.Ytchnfahgmceohaa

/- series of the program. -/
namespace Go.Proofs.Ytchnfahgmceohaa
open Go.RowKit
set_option linter.unusedVariables false

/-- What series hands back. -/
def RetSer (s : SerD × Int) (w : World) (e : Ending) (w' : World) : Prop :=
  ∃ A n c, e = .returned (.tuple #[serA s.1.f s.1.st A n c, .int .i64 s.2]) ∧ Ints w' A n c s.1.ds ∧ Below w.heap.size w w' ∧ ∀ ad, A = some ad → w.heap.size ≤ ad.block

theorem grown_cell {w w' : World} {p g i : Nat} (h : w.grownBy w' (some p)) (hg : g ≠ p) (hl : g < w.heap.size) : w'.cell? ⟨g, i, none⟩ = w.cell? ⟨g, i, none⟩ ∧ w'.frozen? ⟨g, i, none⟩ = w.frozen? ⟨g, i, none⟩ := by
  have e : w'.heap[g]? = w.heap[g]? := h.block g hl (by intro e; injection e with e; omega)
  exact ⟨by unfold World.cell?; rw [e], by unfold World.frozen?; rw [e]⟩
theorem Row.grown {w w' : World} {p g n : Nat} {F : Nat → Int} (h : Row w g n F) (hw : w.grownBy w' (some p)) (hg : g ≠ p) : Row w' g n F :=
  ⟨fun j hj => (grown_cell hw hg h.lt).1.trans (h.cell j hj), fun j => (grown_cell hw hg h.lt).2.trans (h.free j), Nat.lt_of_lt_of_le h.lt hw.size⟩
/-- Block g holds an empty record that may be written. -/
structure ZBox (w : World) (g : Nat) : Prop where
  b : SBox w g 0 0 none 0 0
  f : ∀ i, w.frozen? ⟨g, i, none⟩ = false
theorem ZBox.grown {w w' : World} {p g : Nat} (h : ZBox w g) (hw : w.grownBy w' (some p)) (hg : g ≠ p) : ZBox w' g :=
  ⟨⟨(grown_cell hw hg h.b.lt).1.trans h.b.c0, (grown_cell hw hg h.b.lt).1.trans h.b.c1, (grown_cell hw hg h.b.lt).1.trans h.b.c2, Nat.lt_of_lt_of_le h.b.lt hw.size⟩, fun i => (grown_cell hw hg h.b.lt).2.trans (h.f i)⟩
theorem ZBox.far {w : World} {g : Nat} (h : ZBox w g) {p : Addr} (hp : g ≠ p.block) (u : Value) : ZBox (w.setCell p u) g := by
  have ne : ∀ i, (⟨g, i, none⟩ : Addr) ≠ p := fun i e => hp (by rw [← e])
  exact ⟨⟨by rw [World.cell?_setCell_other w _ _ _ (fun e => ne 0 e.symm)]; exact h.b.c0, by rw [World.cell?_setCell_other w _ _ _ (fun e => ne 1 e.symm)]; exact h.b.c1, by rw [World.cell?_setCell_other w _ _ _ (fun e => ne 2 e.symm)]; exact h.b.c2, by simp [World.setCell]; exact h.b.lt⟩,
    fun i => by rw [World.frozen?_setCell]; exact h.f i⟩
theorem Rd.far {w : World} {p q : Nat} {bs : List Int} (h : Rd w p q bs) {a : Addr} (h1 : p ≠ a.block) (h2 : q ≤ a.block) (u : Value) : Rd (w.setCell a u) p q bs := by
  obtain ⟨A, n, c, hc, hb, hA⟩ := h.r
  exact ⟨A, n, c, hc.far (q := a) (fun e => h1 e.symm) u, hb.far (p := a) (fun ad e => by have := hA ad e; omega) u, hA⟩
theorem stored3 {w : World} {g : Nat} {a b c : Value} (x y z : Value) (h0 : w.cell? ⟨g, 0, none⟩ = some a) (h1 : w.cell? ⟨g, 1, none⟩ = some b) (h2 : w.cell? ⟨g, 2, none⟩ = some c) :
    (((w.setCell ⟨g, 0, none⟩ x).setCell ⟨g, 1, none⟩ y).setCell ⟨g, 2, none⟩ z).cell? ⟨g, 0, none⟩ = some x ∧
    (((w.setCell ⟨g, 0, none⟩ x).setCell ⟨g, 1, none⟩ y).setCell ⟨g, 2, none⟩ z).cell? ⟨g, 1, none⟩ = some y ∧
    (((w.setCell ⟨g, 0, none⟩ x).setCell ⟨g, 1, none⟩ y).setCell ⟨g, 2, none⟩ z).cell? ⟨g, 2, none⟩ = some z := by
  have k1 : (w.setCell ⟨g, 0, none⟩ x).cell? ⟨g, 1, none⟩ = some b := by rw [World.cell?_setCell_other w _ _ _ (by simp)]; exact h1
  have k2 : ((w.setCell ⟨g, 0, none⟩ x).setCell ⟨g, 1, none⟩ y).cell? ⟨g, 2, none⟩ = some c := by
    rw [World.cell?_setCell_other _ _ _ _ (by simp), World.cell?_setCell_other w _ _ _ (by simp)]; exact h2
  refine ⟨?_, ?_, World.cell?_setCell_same _ _ _ k2⟩
  · rw [World.cell?_setCell_other _ _ _ _ (by simp), World.cell?_setCell_other _ _ _ _ (by simp)]; exact World.cell?_setCell_same w _ _ h0
  · rw [World.cell?_setCell_other _ _ _ _ (by simp)]; exact World.cell?_setCell_same _ _ _ k1
/-- The head of the loop over the three numbers. -/
structure SeqI (w : World) (bs : List Int) (k : Nat) (wr : World) : Prop where
  e : ∀ j, j < k → errN bs j = 0
  r : Rd wr (w.heap.size + 1) (w.heap.size + 1) (rstN bs k)
  n : Row wr (w.heap.size + 1 + 1) 3 (fun j => if j < k then (numN bs j : Int) else 0)
  z : ZBox wr w.heap.size
  b : Below w.heap.size w wr

set_option maxRecDepth 100000 in
set_option maxHeartbeats 2000000 in
theorem series_calls {A : Option Addr} {n c : Nat} {bs : List Int} (w : World) (h : Byts w A n c bs) (hA : ∀ ad, A = some ad → ad.block < w.heap.size) :
    Calls Try.prog 47 #[.slice A n c] w (RetSer (serL bs) w) := by
  obtain ⟨W0, hW0⟩ : ∃ W0, ((w.alloc (.cells #[.int .i64 0, .int .i64 0, .slice none 0 0] 36)).alloc (.cells #[.slice A n c] 73)).alloc (.cells #[.int .i64 0, .int .i64 0, .int .i64 0] 94) = W0 := ⟨_, rfl⟩
  have hI0 : SeqI w bs 0 W0 := by
    rw [← hW0]
    have b1 : Below w.heap.size w (((w.alloc (.cells #[.int .i64 0, .int .i64 0, .slice none 0 0] 36)).alloc (.cells #[.slice A n c] 73)).alloc (.cells #[.int .i64 0, .int .i64 0, .int .i64 0] 94)) :=
      (((Below.refl _ _).alloc (Nat.le_refl _) _).alloc (by simp) _).alloc (by simp; omega) _
    have cm := (Cel.made (w.alloc (.cells #[.int .i64 0, .int .i64 0, .slice none 0 0] 36)) (.slice A n c) 73).alloc (.cells #[.int .i64 0, .int .i64 0, .int .i64 0] 94)
    rw [World.size_alloc] at cm
    refine ⟨fun j hj => absurd hj (by omega), ⟨A, n, c, cm, h.below b1, fun ad e => by have := hA ad e; omega⟩, ?_, ?_, b1⟩
    · have sz : ((w.alloc (.cells #[.int .i64 0, .int .i64 0, .slice none 0 0] 36)).alloc (.cells #[.slice A n c] 73)).heap.size = w.heap.size + 1 + 1 := by simp
      rw [← sz]
      refine ⟨fun j hj => ?_, fun j => by rw [World.frozen?_alloc_new], by simp⟩
      rw [World.cell?_alloc_new]
      match j, hj with
      | 0, _ => rfl
      | 1, _ => rfl
      | 2, _ => rfl
    · exact ⟨((SBox.made w 0 0 none 0 0).alloc _).alloc _, fun i => by rw [frozen?_alloc_cells, frozen?_alloc_cells]; simp⟩
  have HI0 := Lib.hid hI0
  clear hI0 h hA
  go_enter Try.func47, Try.ntmps47
  go_wp2
  go_loopw [14] (fun i wr => ∃ k : Nat, k ≤ 3 ∧ i = .int .i64 k ∧ SeqI w bs k wr) (fun i _ => 3 - (intOf i).toNat)
  case atStart => exact ⟨0, by omega, rfl, HI0.out⟩
  case round =>
    obtain ⟨k, hk, rfl, he, hr, hn, hz, hb⟩ := hrel
    generalize wr = wo at *
    have hsz := hn.lt
    by_cases hlt : k < 3
    · have nc := number_calls (w.heap.size + 1) (w.heap.size + 1) (rstN bs k) wo hr (Nat.le_refl _)
      have HN := Lib.hid hn
      have HZ := Lib.hid hz
      have HB := Lib.hid hb
      have HEE := Lib.hid he
      have hre : rstN bs (k + 1) = (getN (rstN bs k)).2.2 := rfl
      have hge := getN_err (rstN bs k)
      have hgl := getN_lt (rstN bs k)
      have hnm : numN bs k = (getN (rstN bs k)).1 := rfl
      have hem : errN bs k = (getN (rstN bs k)).2.1 := rfl
      unfold NumP at nc
      rw [← hre, ← hnm, ← hem] at nc
      rw [← hem] at hge
      rw [← hnm] at hgl
      have NC := Lib.hid nc
      clear nc hr hn hz hb he hre hnm hem
      by_cases her : errN bs k = 0
      · have HE2 : Hid (∀ j, j < k + 1 → errN bs j = 0) := Lib.hid fun j hj => by
          by_cases hjk : j = k
          · subst hjk; exact her
          · exact HEE.out j (by omega)
        rw [her] at NC
        clear hge
        go_wp2_with fail
        refine (NC.out).mono ?_
        rintro e w1 ⟨rfl, hr1, hg1⟩
        have n1 := HN.out.grown hg1 (by omega)
        have n2 := n1.set k (numN bs k : Int)
        have n3 := n2.congr (G := fun j => if j < k + 1 then (numN bs j : Int) else 0) (fun j hj => by
          by_cases h1 : j = k
          · subst h1; simp
          · rw [if_neg h1]
            by_cases h2 : j < k
            · rw [if_pos h2, if_pos (by omega)]
            · rw [if_neg h2, if_neg (by omega)])
        have z1 := (HZ.out.grown hg1 (by omega)).far (p := ⟨w.heap.size + 1 + 1, k, none⟩) (by show w.heap.size ≠ w.heap.size + 1 + 1; omega) (.int .i64 (numN bs k))
        have r1 := hr1.far (a := ⟨w.heap.size + 1 + 1, k, none⟩) (by show w.heap.size + 1 ≠ w.heap.size + 1 + 1; omega) (by show w.heap.size + 1 ≤ w.heap.size + 1 + 1; omega) (.int .i64 (numN bs k))
        have b1 := (HB.out.trans (Below.of_num hg1 (show w.heap.size ≤ w.heap.size + 1 by omega) (by omega))).setCell (p := ⟨w.heap.size + 1 + 1, k, none⟩) (by show w.heap.size ≤ w.heap.size + 1 + 1; omega) (.int .i64 (numN bs k))
        have R := Lib.hid (SeqI.mk HE2.out r1 n3 z1 b1)
        have nc0 := n1.cell k (by omega)
        have nf0 := n1.free k
        have nl := n1.lt
        clear n1 n2 n3 z1 r1 b1 hr1 hg1
        go_wp2
        go_roundw
        case rel => exact ⟨k + 1, by omega, by go_num, R.out⟩
        case measure => simp [intOf]; try omega
      · have HS := Lib.hid (serL_err hlt her)
        have heq : (errN bs k == 0) = false := by simp [her]
        have her' : 0 < errN bs k := by omega
        go_wp2_with fail
        refine (NC.out).mono ?_
        rintro e w1 ⟨rfl, hr1, hg1⟩
        have z1 := HZ.out.grown hg1 (by omega)
        have HZ1 := Lib.hid z1
        obtain ⟨⟨c0, c1, c2, cl⟩, cf⟩ := z1
        have f0 := cf 0
        have f1 := cf 1
        have f2 := cf 2
        have HB1 := Lib.hid (HB.out.trans (Below.of_num hg1 (show w.heap.size ≤ w.heap.size + 1 by omega) (by omega)))
        clear hr1 hg1
        have q := stored3 (.int .i64 0) (.int .i64 0) (.slice none 0 0) c0 c1 c2
        have hbw := ((HB1.out.setCell (p := ⟨w.heap.size, 0, none⟩) (Nat.le_refl _) (.int .i64 0)).setCell (p := ⟨w.heap.size, 1, none⟩) (Nat.le_refl _) (.int .i64 0)).setCell (p := ⟨w.heap.size, 2, none⟩) (Nat.le_refl _) (.slice none 0 0)
        have Q := Lib.hid q
        have HBW := Lib.hid hbw
        clear q hbw
        go_wp2
        have q := Q.out
        have hbw := HBW.out
        generalize ((w1.setCell ⟨w.heap.size, 0, none⟩ (.int .i64 0)).setCell ⟨w.heap.size, 1, none⟩ (.int .i64 0)).setCell ⟨w.heap.size, 2, none⟩ (.slice none 0 0) = W3 at *
        obtain ⟨q0, q1, q2⟩ := q
        refine bodyPost_ret (v := .tuple #[serA 0 0 none 0 0, .int .i64 7]) (by simp [results, Try.results47, go_sem, q0, q1, q2]) rfl ?_
        rw [HS.out]
        exact ⟨none, 0, 0, rfl, Ints.nil _, hbw, fun ad e => by cases e⟩
    · obtain rfl : k = 3 := by omega
      have c0 := hn.cell 0 (by omega)
      have c1 := hn.cell 1 (by omega)
      have c2 := hn.cell 2 (by omega)
      simp at c0 c1 c2
      have g0 := getN_lt (rstN bs 0)
      have g1 := getN_lt (rstN bs 1)
      have g2 := getN_lt (rstN bs 2)
      have s0 : numN bs 0 = (getN (rstN bs 0)).1 := rfl
      have s1 : numN bs 1 = (getN (rstN bs 1)).1 := rfl
      have s2 : numN bs 2 = (getN (rstN bs 2)).1 := rfl
      rw [← s0] at g0
      rw [← s1] at g1
      rw [← s2] at g2
      have HN := Lib.hid hn
      have HZ := Lib.hid hz
      have HB := Lib.hid hb
      have HR := Lib.hid hr
      have HS : Hid (serL bs = _) := Lib.hid (by unfold serL; rw [if_neg (by rw [he 0 (by omega), he 1 (by omega), he 2 (by omega)]; simp)])
      clear s0 s1 s2 hr hn hz hb he
      generalize numN bs 0 = x0 at *
      generalize numN bs 1 = x1 at *
      by_cases hbig : 10000 < (numN bs 2 : Int)
      · have HS1 := HS.out
        rw [if_pos (by omega)] at HS1
        have HS2 := Lib.hid HS1
        obtain ⟨⟨z0, z1, z2, cl⟩, cf⟩ := HZ.out
        have f0 := cf 0
        have f1 := cf 1
        have f2 := cf 2
        have q := stored3 (.int .i64 0) (.int .i64 0) (.slice none 0 0) z0 z1 z2
        have hbw := ((HB.out.setCell (p := ⟨w.heap.size, 0, none⟩) (Nat.le_refl _) (.int .i64 0)).setCell (p := ⟨w.heap.size, 1, none⟩) (Nat.le_refl _) (.int .i64 0)).setCell (p := ⟨w.heap.size, 2, none⟩) (Nat.le_refl _) (.slice none 0 0)
        have Q := Lib.hid q
        have HBW := Lib.hid hbw
        clear q hbw HS1 HS
        go_wp2
        have q := Q.out
        have hbw := HBW.out
        generalize ((wo.setCell ⟨w.heap.size, 0, none⟩ (.int .i64 0)).setCell ⟨w.heap.size, 1, none⟩ (.int .i64 0)).setCell ⟨w.heap.size, 2, none⟩ (.slice none 0 0) = W3 at *
        obtain ⟨q0, q1, q2⟩ := q
        refine bodyPost_ret (v := .tuple #[serA 0 0 none 0 0, .int .i64 7]) (by simp [results, Try.results47, go_sem, q0, q1, q2]) rfl ?_
        rw [HS2.out]
        exact ⟨none, 0, 0, rfl, Ints.nil _, hbw, fun ad e => by cases e⟩
      · have HS1 := HS.out
        rw [if_neg (by omega)] at HS1
        have HS2 := Lib.hid HS1
        have uc := fun W => unfolded_calls x0 W (by omega)
        have UC := Lib.hid uc
        have cm := SBox.made wo (unfoldN x0) (x1 : Int) none 0 0
        have ba : Below wo.heap.size wo (wo.alloc (serO (unfoldN x0) (x1 : Int) none 0 0)) := (Below.refl _ _).alloc (Nat.le_refl _) _
        obtain ⟨Ar, nr, cr, hcr, hbr, hAr⟩ := HR.out.r
        have r2 : Rd (wo.alloc (serO (unfoldN x0) (x1 : Int) none 0 0)).drew (w.heap.size + 1) (w.heap.size + 1) (rstN bs 3) := ⟨Ar, nr, cr, (hcr.alloc _).drewN 1, (hbr.below ba).drewN 1, hAr⟩
        have j2 : JS (unfoldN x0) (x1 : Int) wo.heap.size (wo.alloc (serO (unfoldN x0) (x1 : Int) none 0 0)).drew [] :=
          ⟨cm.c0, cm.c1, World.frozen?_alloc_new _ _ _ _, cm.lt, .slice none 0 0, cm.c2, Own.nil _ _⟩
        have pc := packed_calls 67 (w.heap.size + 1) (w.heap.size + 1) wo.heap.size wo.heap.size (JS (unfoldN x0) (x1 : Int) wo.heap.size) (numN bs 2) (rstN bs 3) _ r2 j2 (by omega) (by omega) (by omega) (Nat.le_refl _) (by omega) (Nat.le_refl _) cm.lt (.inr rfl)
          (fun W W' o hJ hW => hJ.num (by omega) hW) (fun W o v t hJ hp hv ht hl => series1_calls _ _ _ o v t W hJ hv ht hl)
        have hup : unpGo (numN bs 2) (numN bs 2) 0 false (rstN bs 3) [] = unpS bs := rfl
        rw [hup] at pc
        have PC := Lib.hid pc
        have HZ2 : Hid (ZBox (wo.alloc (serO (unfoldN x0) (x1 : Int) none 0 0)).drew w.heap.size) := Lib.hid ⟨(let b := HZ.out.b.alloc (serO (unfoldN x0) (x1 : Int) none 0 0); ⟨b.c0, b.c1, b.c2, b.lt⟩), fun i => (ba.frozen (p := ⟨w.heap.size, i, none⟩) HZ.out.b.lt).trans (HZ.out.f i)⟩
        have hb2 : Below w.heap.size w (wo.alloc (serO (unfoldN x0) (x1 : Int) none 0 0)).drew := (HB.out.alloc (by omega) _).drew
        have HB2' := Lib.hid hb2
        have c2' : (wo.alloc (serO (unfoldN x0) (x1 : Int) none 0 0)).drew.cell? ⟨w.heap.size + 1 + 1, 2, none⟩ = some (.int .i64 (numN bs 2 : Int)) := (ba.cell (p := ⟨w.heap.size + 1 + 1, 2, none⟩) hsz).trans c2
        have hu0 := unfoldN_le x0
        obtain ⟨hu1, hu2⟩ := hu0
        clear HS1 HS uc hcr hbr hAr r2 j2 pc cm ba hup hb2
        go_wp2
        go_upto_region 13 with fail
        go_cut [9] from 33 to 38 (fun t wx => t = .pointer (some ⟨wo.heap.size, 0, none⟩) ∧ wx = (wo.alloc (serO (unfoldN x0) (x1 : Int) none 0 0)).drew)
        case first =>
          clear PC HZ2 HB2' HS2 HZ HB HR HN c2' HI0
          go_region_with (go_at_call 66; refine (UC.out _).mono ?_; rintro e w3 ⟨rfl, rfl⟩)
          all_goals (go_wp2_with fail; go_meet)
          all_goals (first | exact ⟨rfl, rfl⟩ | (trace_state; fail))
        case rest =>
          obtain ⟨rfl, rfl⟩ := hcut
          go_wp2_with fail
          refine (PC.out).mono ?_
          rintro e w2 ⟨rfl, hr3, hj3, hb3⟩
          have HZ3 : Hid (ZBox w2 w.heap.size) := Lib.hid ⟨HZ2.out.b.below hb3 (by omega), fun i => (hb3.frozen (p := ⟨w.heap.size, i, none⟩) (show w.heap.size < w.heap.size + 1 by omega)).trans (HZ2.out.f i)⟩
          have HB3 := Lib.hid (HB2'.out.trans (hb3.mono (by omega)))
          obtain ⟨A4, n4, c4, ⟨r0, r1, r2⟩, hby, -⟩ := hr3.r
          obtain ⟨j0, j1, j2, jl, jv, jc, jo⟩ := hj3
          have hn4 := hby.len
          generalize unpS bs = U at *
          obtain ⟨ue, uo, ur⟩ := U
          dsimp only at *
          subst hn4
          by_cases hue : ue = 0
          · subst hue
            by_cases hur : 0 < (ur.length : Int)
            · have hs3 := HS2.out
              rw [if_pos (.inr (by omega))] at hs3
              have HS3 := Lib.hid hs3
              clear hs3
              obtain ⟨⟨z0, z1, z2, zl⟩, zf⟩ := HZ3.out
              have f0 := zf 0
              have f1 := zf 1
              have f2 := zf 2
              have q := stored3 (.int .i64 0) (.int .i64 0) (.slice none 0 0) z0 z1 z2
              have hbw := ((HB3.out.setCell (p := ⟨w.heap.size, 0, none⟩) (Nat.le_refl _) (.int .i64 0)).setCell (p := ⟨w.heap.size, 1, none⟩) (Nat.le_refl _) (.int .i64 0)).setCell (p := ⟨w.heap.size, 2, none⟩) (Nat.le_refl _) (.slice none 0 0)
              have Q := Lib.hid q
              have HBW := Lib.hid hbw
              clear q hbw
              go_wp2
              have q := Q.out
              have hbw := HBW.out
              generalize ((w2.setCell ⟨w.heap.size, 0, none⟩ (.int .i64 0)).setCell ⟨w.heap.size, 1, none⟩ (.int .i64 0)).setCell ⟨w.heap.size, 2, none⟩ (.slice none 0 0) = W3 at *
              obtain ⟨q0, q1, q2⟩ := q
              refine bodyPost_ret (v := .tuple #[serA 0 0 none 0 0, .int .i64 7]) (by simp [results, Try.results47, go_sem, q0, q1, q2]) rfl ?_
              rw [HS3.out]
              exact ⟨none, 0, 0, rfl, Ints.nil _, hbw, fun ad e => by cases e⟩
            · have hs3 := HS2.out
              rw [if_neg (by intro h; rcases h with h | h; exact h rfl; omega)] at hs3
              obtain ⟨A5, n5, c5, rfl, hi5, hB5⟩ := jo.ints
              have gv := gValid_calls (unfoldN x0) (x1 : Int) w2 hi5
              have HI5 := Lib.hid hi5
              have hur0 : ur.length = 0 := by omega
              rw [hur0] at r0 hur
              clear jo hi5
              generalize hV : validS (unfoldN x0) (x1 : Int) uo = V at *
              have GV := Lib.hid gv
              clear gv
              cases V
              · rw [if_pos rfl] at hs3
                have HS3 := Lib.hid hs3
                clear hs3
                go_wp2_with fail
                refine (GV.out).mono ?_
                rintro e w3 ⟨rfl, b5⟩
                have HZ4 : Hid (ZBox w3 w.heap.size) := Lib.hid ⟨HZ3.out.b.below b5 HZ3.out.b.lt, fun i => (b5.frozen (p := ⟨w.heap.size, i, none⟩) HZ3.out.b.lt).trans (HZ3.out.f i)⟩
                have HB4 := Lib.hid (HB3.out.trans (b5.mono (Nat.le_of_lt HZ3.out.b.lt)))
                clear b5
                obtain ⟨⟨z0, z1, z2, zl⟩, zf⟩ := HZ4.out
                have f0 := zf 0
                have f1 := zf 1
                have f2 := zf 2
                have q := stored3 (.int .i64 0) (.int .i64 0) (.slice none 0 0) z0 z1 z2
                have hbw := ((HB4.out.setCell (p := ⟨w.heap.size, 0, none⟩) (Nat.le_refl _) (.int .i64 0)).setCell (p := ⟨w.heap.size, 1, none⟩) (Nat.le_refl _) (.int .i64 0)).setCell (p := ⟨w.heap.size, 2, none⟩) (Nat.le_refl _) (.slice none 0 0)
                have Q := Lib.hid q
                have HBW := Lib.hid hbw
                clear q hbw
                go_wp2
                have q := Q.out
                have hbw := HBW.out
                generalize ((w3.setCell ⟨w.heap.size, 0, none⟩ (.int .i64 0)).setCell ⟨w.heap.size, 1, none⟩ (.int .i64 0)).setCell ⟨w.heap.size, 2, none⟩ (.slice none 0 0) = W3 at *
                obtain ⟨q0, q1, q2⟩ := q
                refine bodyPost_ret (v := .tuple #[serA 0 0 none 0 0, .int .i64 1]) (by simp [results, Try.results47, go_sem, q0, q1, q2]) rfl ?_
                rw [HS3.out]
                exact ⟨none, 0, 0, rfl, Ints.nil _, hbw, fun ad e => by cases e⟩
              · rw [if_neg (by simp)] at hs3
                have HS3 := Lib.hid hs3
                clear hs3
                go_wp2_with fail
                refine (GV.out).mono ?_
                rintro e w3 ⟨rfl, b5⟩
                have HZ4 : Hid (ZBox w3 w.heap.size) := Lib.hid ⟨HZ3.out.b.below b5 HZ3.out.b.lt, fun i => (b5.frozen (p := ⟨w.heap.size, i, none⟩) HZ3.out.b.lt).trans (HZ3.out.f i)⟩
                have HB4 := Lib.hid (HB3.out.trans (b5.mono (Nat.le_of_lt HZ3.out.b.lt)))
                have HI6 := Lib.hid (HI5.out.below b5)
                have i0 := (b5.cell (p := ⟨wo.heap.size, 0, none⟩) jl).trans j0
                have i1 := (b5.cell (p := ⟨wo.heap.size, 1, none⟩) jl).trans j1
                have i2 := (b5.cell (p := ⟨wo.heap.size, 2, none⟩) jl).trans jc
                clear b5
                obtain ⟨⟨z0, z1, z2, zl⟩, zf⟩ := HZ4.out
                have f0 := zf 0
                have f1 := zf 1
                have f2 := zf 2
                have q := stored3 (.int .i64 (unfoldN x0)) (.int .i64 (x1 : Int)) (.slice A5 n5 c5) z0 z1 z2
                have hbw := ((HB4.out.setCell (p := ⟨w.heap.size, 0, none⟩) (Nat.le_refl _) (.int .i64 (unfoldN x0))).setCell (p := ⟨w.heap.size, 1, none⟩) (Nat.le_refl _) (.int .i64 (x1 : Int))).setCell (p := ⟨w.heap.size, 2, none⟩) (Nat.le_refl _) (.slice A5 n5 c5)
                have Q := Lib.hid q
                have HBW := Lib.hid hbw
                clear q hbw
                go_wp2
                have q := Q.out
                have hbw := HBW.out
                have hi6 := ((HI6.out.far (p := ⟨w.heap.size, 0, none⟩) (fun ad e => by have := hB5 ad e; show ad.block ≠ w.heap.size; omega) (.int .i64 (unfoldN x0))).far (p := ⟨w.heap.size, 1, none⟩) (fun ad e => by have := hB5 ad e; show ad.block ≠ w.heap.size; omega) (.int .i64 (x1 : Int))).far (p := ⟨w.heap.size, 2, none⟩) (fun ad e => by have := hB5 ad e; show ad.block ≠ w.heap.size; omega) (.slice A5 n5 c5)
                generalize ((w3.setCell ⟨w.heap.size, 0, none⟩ (.int .i64 (unfoldN x0))).setCell ⟨w.heap.size, 1, none⟩ (.int .i64 (x1 : Int))).setCell ⟨w.heap.size, 2, none⟩ (.slice A5 n5 c5) = W3 at *
                obtain ⟨q0, q1, q2⟩ := q
                refine bodyPost_ret (v := .tuple #[serA (unfoldN x0) (x1 : Int) A5 n5 c5, .int .i64 0]) (by simp [results, Try.results47, go_sem, q0, q1, q2]) rfl ?_
                rw [HS3.out]
                exact ⟨A5, n5, c5, rfl, hi6, hbw, fun ad e => by have := hB5 ad e; omega⟩
          · have hs3 := HS2.out
            rw [if_pos (.inl hue)] at hs3
            have HS3 := Lib.hid hs3
            have heq : (ue == 0) = false := by simp [hue]
            clear hs3
            obtain ⟨⟨z0, z1, z2, zl⟩, zf⟩ := HZ3.out
            have f0 := zf 0
            have f1 := zf 1
            have f2 := zf 2
            have q := stored3 (.int .i64 0) (.int .i64 0) (.slice none 0 0) z0 z1 z2
            have hbw := ((HB3.out.setCell (p := ⟨w.heap.size, 0, none⟩) (Nat.le_refl _) (.int .i64 0)).setCell (p := ⟨w.heap.size, 1, none⟩) (Nat.le_refl _) (.int .i64 0)).setCell (p := ⟨w.heap.size, 2, none⟩) (Nat.le_refl _) (.slice none 0 0)
            have Q := Lib.hid q
            have HBW := Lib.hid hbw
            clear q hbw
            go_wp2
            have q := Q.out
            have hbw := HBW.out
            generalize ((w2.setCell ⟨w.heap.size, 0, none⟩ (.int .i64 0)).setCell ⟨w.heap.size, 1, none⟩ (.int .i64 0)).setCell ⟨w.heap.size, 2, none⟩ (.slice none 0 0) = W3 at *
            obtain ⟨q0, q1, q2⟩ := q
            refine bodyPost_ret (v := .tuple #[serA 0 0 none 0 0, .int .i64 7]) (by simp [results, Try.results47, go_sem, q0, q1, q2]) rfl ?_
            rw [HS3.out]
            exact ⟨none, 0, 0, rfl, Ints.nil _, hbw, fun ad e => by cases e⟩
end Go.Proofs.Ytchnfahgmceohaa
