/- ascends of the program: a list between 1 and m, ascending, of at most q elements. -/
import Derived.Test.YtfhikdgdckfalaaMB04

namespace Go.Proofs.Ytfhikdgdckfalaa
open Go.RowKit
set_option linter.unusedVariables false

def AscOk (l : List Int) (q m : Int) : Prop := (∀ j, j < l.length → 1 ≤ el l j ∧ el l j ≤ m) ∧ (∀ j, j + 1 < l.length → el l j < el l (j + 1)) ∧ 1 ≤ l.length ∧ (l.length : Int) ≤ q
theorem AscOk.asc {l : List Int} {q m : Int} (h : AscOk l q m) : Asc l := by
  intro i j hij
  induction j with
  | zero => omega
  | succ j ih =>
    intro hj
    have := h.2.1 j hj
    by_cases e : i = j
    · subst e; exact this
    · have := ih (by omega) (by omega); omega
def AscR (l : List Int) (q m : Int) (w : World) (e : Ending) (w' : World) : Prop := ∃ b, e = .returned (.bool b) ∧ w = w' ∧ (b = true ↔ AscOk l q m)

set_option maxRecDepth 100000 in
set_option maxHeartbeats 2000000 in
theorem ascends_calls {A : Option Addr} {n c : Nat} {l : List Int} (q m : Int) (w : World) (h : Ints w A n c l) (hq : 0 ≤ q ∧ q ≤ 10000000) (hm : 0 ≤ m ∧ m ≤ 10000000) :
    Calls Try.prog 80 #[.slice A n c, .int .i64 q, .int .i64 m] w (AscR l q m w) := by
  have hcap := h.cap
  have hmax := h.max
  have hfew := h.few
  have HL := Lib.hid h.len
  have H := Lib.hid h
  clear h
  go_enter Try.func80, Try.ntmps80
  go_wp2
  go_loop [11] (fun i => ∃ k : Nat, k ≤ n ∧ i = .int .i64 k ∧ (∀ j, j < k → 1 ≤ el l j ∧ el l j ≤ m) ∧ ∀ j, j + 1 < k → el l j < el l (j + 1)) (fun i => n - (intOf i).toNat)
  case atStart => exact ⟨0, Nat.zero_le _, rfl, fun j hj => absurd hj (by omega), fun j hj => absurd hj (by omega)⟩
  case round =>
    obtain ⟨k, hk, rfl, hno, hno2⟩ := hrel
    have HN := Lib.hid hno
    have HN2 := Lib.hid hno2
    clear hno hno2
    by_cases hlt : k < n
    · obtain ⟨ad, rfl, hl, hc⟩ := H.out.at_ hlt
      obtain ⟨x, hx⟩ : ∃ x, el l k = x := ⟨_, rfl⟩
      rw [hx] at hc
      have HX := Lib.hid hx
      clear hx
      by_cases h1 : x < 1
      · go_wp2
        go_ret
        exact ⟨false, rfl, rfl, by simp, fun a => by have := (a.1 k (by rw [HL.out]; exact hlt)).1; rw [HX.out] at this; omega⟩
      by_cases h2 : m < x
      · go_wp2
        go_ret
        exact ⟨false, rfl, rfl, by simp, fun a => by have := (a.1 k (by rw [HL.out]; exact hlt)).2; rw [HX.out] at this; omega⟩
      by_cases h3 : k = 0
      · subst h3
        have hc0 : w.cell? ad = some (.int .i64 x) := hc
        go_wp2
        go_round
        case rel => exact ⟨1, by omega, by go_num, fun j hj => by
          obtain rfl : j = 0 := by omega
          rw [HX.out]; omega, fun j hj => by omega⟩
        case measure => simp [intOf]; try omega
      obtain ⟨t, rfl⟩ : ∃ t, k = t + 1 := ⟨k - 1, by omega⟩
      obtain ⟨ad', eA, hl', hc'⟩ := H.out.at_ (k := t) (by omega)
      obtain rfl : ad = ad' := by injection eA
      obtain ⟨y, hy⟩ : ∃ y, el l t = y := ⟨_, rfl⟩
      rw [hy] at hc'
      have HY := Lib.hid hy
      have e1 : IntKind.i64.wrap (((t + 1 : Nat) : Int) - 1) = (t : Int) := by rw [show ((t + 1 : Nat) : Int) - 1 = t by omega]; exact IntWalk.i64_in _ (by omega)
      have e2 : IntKind.i64.wrap ((t : Int) + 1 - 1) = (t : Int) := by rw [show (t : Int) + 1 - 1 = t by omega]; exact IntWalk.i64_in _ (by omega)
      have hcx : w.cell? ⟨ad.block, ad.off + (t + 1), none⟩ = some (.int .i64 x) := hc
      clear hy eA
      by_cases h4 : x ≤ y
      · go_wp2
        go_ret
        exact ⟨false, rfl, rfl, by simp, fun a => by have := a.2.1 t (by rw [HL.out]; exact hlt); rw [HX.out, HY.out] at this; omega⟩
      · go_wp2
        go_round
        case rel => exact ⟨t + 1 + 1, by omega, by go_num, fun j hj => by
          by_cases hjk : j = t + 1
          · subst hjk; rw [HX.out]; omega
          · exact HN.out j (by omega), fun j hj => by
          by_cases hjk : j = t
          · subst hjk; rw [HX.out, HY.out]; omega
          · exact HN2.out j (by omega)⟩
        case measure => simp [intOf]; try omega
    · have hkn : k = n := by omega
      subst hkn
      have h5 : 1 ≤ k ∨ k = 0 := by omega
      have HB := Lib.hid (show (1 ≤ k ∧ (k : Int) ≤ q) ↔ AscOk l q m from ⟨fun a => ⟨fun j hj => HN.out j (by rw [HL.out] at hj; exact hj), fun j hj => HN2.out j (by rw [HL.out] at hj; exact hj), by rw [HL.out]; exact a.1, by rw [HL.out]; exact a.2⟩, fun a => by have a1 := a.2.2.1; have a2 := a.2.2.2; rw [HL.out] at a1 a2; exact ⟨a1, a2⟩⟩)
      rcases h5 with h5 | h5
      · by_cases h6 : (k : Int) ≤ q
        · go_wp2
          go_ret
          exact ⟨true, rfl, rfl, fun _ => HB.out.1 ⟨h5, h6⟩, fun _ => rfl⟩
        · go_wp2
          go_ret
          exact ⟨false, rfl, rfl, by simp, fun a => by have := (HB.out.2 a).2; omega⟩
      · subst h5
        go_wp2
        go_ret
        exact ⟨false, rfl, rfl, by simp, fun a => absurd (HB.out.2 a).1 (by omega)⟩
end Go.Proofs.Ytfhikdgdckfalaa

/- Valid of the program: an intensity table. -/
namespace Go.Proofs.Ytfhikdgdckfalaa
open Go.RowKit
set_option linter.unusedVariables false

/-- A cell of the table in row k, column j. -/
def CellOk (rows : List (List Int)) (k j : Nat) : Prop := (0 ≤ el (tl rows k) j ∧ el (tl rows k) j ≤ 4194304) ∧ (∀ i, j = i + 1 → el (tl rows k) i ≤ el (tl rows k) j) ∧ (∀ i, k = i + 1 → el (tl rows i) j ≤ el (tl rows k) j)
def RowOk (ds : List Int) (rows : List (List Int)) (k : Nat) : Prop := (tl rows k).length = ds.length ∧ ∀ j, j < ds.length → CellOk rows k j
def VOk (ds ps : List Int) (rows : List (List Int)) : Prop := AscOk ds 100 2592000 ∧ AscOk ps 20 10000 ∧ rows.length = ps.length ∧ ∀ k, k < rows.length → RowOk ds rows k
theorem mem_el {l : List Int} {z : Int} (h : z ∈ l) : ∃ j, j < l.length ∧ el l j = z := by
  obtain ⟨j, hj, rfl⟩ := List.getElem_of_mem h
  exact ⟨j, hj, by unfold el; rw [List.getD_eq_getElem?_getD, List.getElem?_eq_getElem hj]; rfl⟩
theorem VOk.tok {ds ps : List Int} {rows : List (List Int)} (h : VOk ds ps rows) : TOk ds ps rows :=
  ⟨h.1.asc, h.2.1.asc, fun z hz => by obtain ⟨j, hj, rfl⟩ := mem_el hz; exact h.1.1 j hj, fun z hz => by obtain ⟨j, hj, rfl⟩ := mem_el hz; exact h.2.1.1 j hj, h.2.2.1, fun r hr => by
    obtain ⟨k, hk, rfl⟩ := tl_of_mem hr
    obtain ⟨h1, h2⟩ := h.2.2.2 k hk
    refine ⟨h1, fun z hz => ?_⟩
    obtain ⟨j, hj, rfl⟩ := mem_el hz
    exact (h2 j (by omega)).1⟩
def ValR (ds ps : List Int) (rows : List (List Int)) (w : World) (e : Ending) (w' : World) : Prop := ∃ b, e = .returned (.bool b) ∧ Below w.heap.size w w' ∧ (b = true ↔ VOk ds ps rows)

set_option maxRecDepth 100000 in
set_option maxHeartbeats 4000000 in
theorem Valid_calls {A0 A1 A2 : Option Addr} {n0 c0 n1 c1 n2 c2 : Nat} {ds ps : List Int} {rows : List (List Int)} (w : World) (h0 : Ints w A0 n0 c0 ds) (h1 : Ints w A1 n1 c1 ps) (h2 : Tab w A2 n2 c2 rows) :
    Calls Try.prog 68 #[tabA A0 n0 c0 A1 n1 c1 A2 n2 c2] w (ValR ds ps rows w) := by
  obtain ⟨W0, hW0⟩ : ∃ W0, w.alloc (tabO A0 n0 c0 A1 n1 c1 A2 n2 c2) = W0 := ⟨_, rfl⟩
  have hb0 : Below w.heap.size w W0 := by rw [← hW0]; exact (Below.refl _ _).alloc (Nat.le_refl _) _
  have x0 : HBox W0 w.heap.size (.slice A0 n0 c0) (.slice A1 n1 c1) (.slice A2 n2 c2) := by rw [← hW0]; exact HBox.made _ _ _ _ _
  have F1 := Lib.hid (ascends_calls 100 2592000 W0 (h0.below hb0) (by omega) (by omega))
  have F2 := Lib.hid (ascends_calls 20 10000 W0 (h1.below hb0) (by omega) (by omega))
  have T0 := Lib.hid (h2.below hb0)
  have I0 := Lib.hid (h0.below hb0)
  have B0 := Lib.hid hb0
  have L0 := Lib.hid h0.len
  have L1 := Lib.hid h1.len
  have L2 := Lib.hid h2.len
  have q0 := h0.few
  have q1 := h1.few
  have q2 := h2.few
  obtain ⟨k0, k1, k2, kl⟩ : W0.cell? ⟨w.heap.size, 0, none⟩ = some (.slice A0 n0 c0) ∧ W0.cell? ⟨w.heap.size, 1, none⟩ = some (.slice A1 n1 c1) ∧ W0.cell? ⟨w.heap.size, 2, none⟩ = some (.slice A2 n2 c2) ∧ w.heap.size < W0.heap.size := ⟨x0.c0, x0.c1, x0.c2, x0.lt⟩
  have hcap2 := h2.cap
  have hmax2 := h2.max
  clear h0 h1 h2 hb0 x0
  go_enter Try.func68, Try.ntmps68
  go_wp2_with fail
  refine (F1.out).mono ?_
  rintro e W1 ⟨b1, rfl, rfl, hb1⟩
  have V1 := Lib.hid hb1
  clear hb1
  cases b1
  · go_wp2
    go_ret
    exact ⟨false, rfl, B0.out, by simp, fun a => by have := V1.out.2 a.1; cases this⟩
  go_wp2_with fail
  refine (F2.out).mono ?_
  rintro e W1 ⟨b2, rfl, rfl, hb2⟩
  have V2 := Lib.hid hb2
  clear hb2
  cases b2
  · go_wp2
    go_ret
    exact ⟨false, rfl, B0.out, by simp, fun a => by have := V2.out.2 a.2.1; cases this⟩
  by_cases hn : n2 = n1
  · subst hn
    have hb1 := L2.out
    go_wp2
    go_loop [29] (fun i => ∃ k : Nat, k ≤ n2 ∧ i = .int .i64 k ∧ ∀ j, j < k → RowOk ds rows j) (fun i => n2 - (intOf i).toNat)
    case atStart => exact ⟨0, Nat.zero_le _, rfl, fun j hj => absurd hj (by omega)⟩
    case round =>
      obtain ⟨k, hk, rfl, hno⟩ := hrel
      have HN := Lib.hid hno
      clear hno
      by_cases hlt : k < n2
      · obtain ⟨ad, A', n', c', rfl, hl, hc, hI⟩ := T0.out.at_ hlt
        have II := Lib.hid hI
        have LI := Lib.hid hI.len
        have cI := hI.cap
        have fI := hI.few
        have xI := hI.max
        clear hI
        by_cases hn0 : n' = n0
        · subst hn0
          go_wp2
          go_loop [42] (fun i => ∃ m : Nat, m ≤ n' ∧ i = .int .i64 m ∧ ∀ j, j < m → CellOk rows k j) (fun i => n' - (intOf i).toNat)
          case atStart => exact ⟨0, Nat.zero_le _, rfl, fun j hj => absurd hj (by omega)⟩
          case round =>
            obtain ⟨m, hmn, rfl, hso⟩ := hrel
            have HS := Lib.hid hso
            clear hso
            by_cases hm : m < n'
            · obtain ⟨ax, rfl, hlx, hcx⟩ := II.out.at_ hm
              obtain ⟨x, hx⟩ : ∃ x, el (tl rows k) m = x := ⟨_, rfl⟩
              rw [hx] at hcx
              have HX := Lib.hid hx
              clear hx
              by_cases h1 : x < 0
              · go_wp2
                go_ret
                exact ⟨false, rfl, B0.out, by simp, fun a => by have := And.left <| And.left <| ((a.2.2.2 k (by rw [L2.out]; exact hlt)).2 m (by rw [L0.out]; exact hm)); rw [HX.out] at this; omega⟩
              by_cases h2 : 4194304 < x
              · go_wp2
                go_ret
                exact ⟨false, rfl, B0.out, by simp, fun a => by have := And.right <| And.left <| ((a.2.2.2 k (by rw [L2.out]; exact hlt)).2 m (by rw [L0.out]; exact hm)); rw [HX.out] at this; omega⟩
              by_cases h3 : m = 0
              · subst h3
                have hcx0 : W0.cell? ax = some (.int .i64 x) := hcx
                have HM := Lib.hid (show ∀ i, (0 : Nat) = i + 1 → el (tl rows k) i ≤ el (tl rows k) 0 from fun i hi => by omega)
                by_cases hk0 : k = 0
                · subst hk0
                  go_wp2
                  go_round
                  case rel => exact ⟨1, by omega, by go_num, fun j hj => by
                    by_cases hjm : j = 0
                    · subst hjm; exact ⟨⟨by rw [HX.out]; omega, by rw [HX.out]; omega⟩, HM.out, fun i hi => by omega⟩
                    · exact HS.out j (by omega)⟩
                  case measure => simp [intOf]; try omega
                · obtain ⟨t, rfl⟩ : ∃ t, k = t + 1 := ⟨k - 1, by omega⟩
                  obtain ⟨ad2, A2', n2', c2', eA, hl2, hc2, hI2⟩ := T0.out.at_ (k := t) (by omega)
                  obtain rfl : ad = ad2 := by injection eA
                  have hlr := (HN.out t (by omega)).1
                  have hl2' := hI2.len
                  obtain rfl : n2' = n' := by rw [← hl2', hlr, L0.out]
                  obtain ⟨ay, rfl, hly, hcy⟩ := hI2.at_ (k := 0) hm
                  obtain ⟨y, hy⟩ : ∃ y, el (tl rows t) 0 = y := ⟨_, rfl⟩
                  rw [hy] at hcy
                  have hcy0 : W0.cell? ay = some (.int .i64 y) := hcy
                  have hcc : W0.cell? ⟨ad.block, ad.off + (t + 1), none⟩ = some (.slice (some ax) n2' c') := hc
                  have HY := Lib.hid hy
                  have cI2 := hI2.cap
                  have xI2 := hI2.max
                  have e3 : IntKind.i64.wrap ((t : Int) + 1 - 1) = (t : Int) := by rw [show (t : Int) + 1 - 1 = t by omega]; exact IntWalk.i64_in _ (by omega)
                  clear hy eA hI2 hlr hl2'
                  by_cases h6 : x < y
                  · go_wp2
                    go_ret
                    exact ⟨false, rfl, B0.out, by simp, fun a => by have := ((a.2.2.2 (t + 1) (by rw [L2.out]; exact hlt)).2 0 (by rw [L0.out]; exact hm)).2.2 t rfl; rw [HX.out, HY.out] at this; omega⟩
                  · go_wp2
                    go_round
                    case rel => exact ⟨1, by omega, by go_num, fun j hj => by
                      by_cases hjm : j = 0
                      · subst hjm; exact ⟨⟨by rw [HX.out]; omega, by rw [HX.out]; omega⟩, HM.out, fun i hi => by (obtain rfl : t = i := (by omega)); (rw [HX.out, HY.out]); omega⟩
                      · exact HS.out j (by omega)⟩
                    case measure => simp [intOf]; try omega
              · obtain ⟨s, rfl⟩ : ∃ s, m = s + 1 := ⟨m - 1, by omega⟩
                obtain ⟨ax', eX, hlx', hcz⟩ := II.out.at_ (k := s) (by omega)
                obtain rfl : ax = ax' := by injection eX
                obtain ⟨z, hz⟩ : ∃ z, el (tl rows k) s = z := ⟨_, rfl⟩
                rw [hz] at hcz
                have HZ := Lib.hid hz
                have hcx0 : W0.cell? ⟨ax.block, ax.off + (s + 1), none⟩ = some (.int .i64 x) := hcx
                have e2 : IntKind.i64.wrap ((s : Int) + 1 - 1) = (s : Int) := by rw [show (s : Int) + 1 - 1 = s by omega]; exact IntWalk.i64_in _ (by omega)
                clear hz eX
                by_cases h5 : x < z
                · go_wp2
                  go_ret
                  exact ⟨false, rfl, B0.out, by simp, fun a => by have := ((a.2.2.2 k (by rw [L2.out]; exact hlt)).2 (s + 1) (by rw [L0.out]; exact hm)).2.1 s rfl; rw [HX.out, HZ.out] at this; omega⟩
                have HM := Lib.hid (show ∀ i, s + 1 = i + 1 → el (tl rows k) i ≤ el (tl rows k) (s + 1) from fun i hi => by (obtain rfl : s = i := (by omega)); (rw [HX.out, HZ.out]); omega)
                by_cases hk0 : k = 0
                · subst hk0
                  go_wp2
                  go_round
                  case rel => exact ⟨s + 1 + 1, by omega, by go_num, fun j hj => by
                    by_cases hjm : j = s + 1
                    · subst hjm; exact ⟨⟨by rw [HX.out]; omega, by rw [HX.out]; omega⟩, HM.out, fun i hi => by omega⟩
                    · exact HS.out j (by omega)⟩
                  case measure => simp [intOf]; try omega
                · obtain ⟨t, rfl⟩ : ∃ t, k = t + 1 := ⟨k - 1, by omega⟩
                  obtain ⟨ad2, A2', n2', c2', eA, hl2, hc2, hI2⟩ := T0.out.at_ (k := t) (by omega)
                  obtain rfl : ad = ad2 := by injection eA
                  have hlr := (HN.out t (by omega)).1
                  have hl2' := hI2.len
                  obtain rfl : n2' = n' := by rw [← hl2', hlr, L0.out]
                  obtain ⟨ay, rfl, hly, hcy⟩ := hI2.at_ (k := s + 1) hm
                  obtain ⟨y, hy⟩ : ∃ y, el (tl rows t) (s + 1) = y := ⟨_, rfl⟩
                  rw [hy] at hcy
                  have hcy0 : W0.cell? ⟨ay.block, ay.off + (s + 1), none⟩ = some (.int .i64 y) := hcy
                  have hcc : W0.cell? ⟨ad.block, ad.off + (t + 1), none⟩ = some (.slice (some ax) n2' c') := hc
                  have HY := Lib.hid hy
                  have cI2 := hI2.cap
                  have xI2 := hI2.max
                  have e3 : IntKind.i64.wrap ((t : Int) + 1 - 1) = (t : Int) := by rw [show (t : Int) + 1 - 1 = t by omega]; exact IntWalk.i64_in _ (by omega)
                  clear hy eA hI2 hlr hl2'
                  by_cases h6 : x < y
                  · go_wp2
                    go_ret
                    exact ⟨false, rfl, B0.out, by simp, fun a => by have := ((a.2.2.2 (t + 1) (by rw [L2.out]; exact hlt)).2 (s + 1) (by rw [L0.out]; exact hm)).2.2 t rfl; rw [HX.out, HY.out] at this; omega⟩
                  · go_wp2
                    go_round
                    case rel => exact ⟨s + 1 + 1, by omega, by go_num, fun j hj => by
                      by_cases hjm : j = s + 1
                      · subst hjm; exact ⟨⟨by rw [HX.out]; omega, by rw [HX.out]; omega⟩, HM.out, fun i hi => by (obtain rfl : t = i := (by omega)); (rw [HX.out, HY.out]); omega⟩
                      · exact HS.out j (by omega)⟩
                    case measure => simp [intOf]; try omega
            · have hmn' : m = n' := by omega
              subst hmn'
              go_wp2
              go_round
              case rel => exact ⟨k + 1, by omega, by go_num, fun j hj => by
                by_cases hjk : j = k
                · subst hjk; exact ⟨by rw [LI.out, L0.out], fun i hi => HS.out i (by rw [L0.out] at hi; exact hi)⟩
                · exact HN.out j (by omega)⟩
              case measure => simp [intOf]; try omega
        · have hn' : ((n' : Int) == (n0 : Int)) = false := by simp; omega
          go_wp2
          go_ret
          exact ⟨false, rfl, B0.out, by simp, fun a => by have := (a.2.2.2 k (by rw [L2.out]; exact hlt)).1; rw [LI.out, L0.out] at this; omega⟩
      · have hkn : k = n2 := by omega
        subst hkn
        go_wp2
        go_ret
        exact ⟨true, rfl, B0.out, fun _ => ⟨V1.out.1 (by simp), V2.out.1 (by simp), by rw [L2.out, L1.out], fun j hj => HN.out j (by rw [L2.out] at hj; exact hj)⟩, fun _ => rfl⟩
  · have hn' : ((n2 : Int) == (n1 : Int)) = false := by simp; omega
    go_wp2
    go_ret
    exact ⟨false, rfl, B0.out, by simp, fun a => by have := a.2.2.1; rw [L2.out, L1.out] at this; omega⟩
end Go.Proofs.Ytfhikdgdckfalaa

/-
  PLAIN LAW: the quotient of a number of 128 bits by one of 64, digit by digit of 32 bits; and the long division bit by bit. No program in sight.
-/
namespace Go.Proofs.Ytfhikdgdckfalaa.DivLaw
/-- One digit to the base B: what the loop keeps: q is at least the digit, u = q y1 + r. -/
structure Digit (B u y1 y0 u1 q r : Nat) : Prop where
  hu : u = q * y1 + r
  hq : (u * B + u1) / (y1 * B + y0) ≤ q

section
variable {B u y1 y0 u1 q r : Nat}

theorem digit_pos (hB : 0 < B) (hy : B ≤ 2 * y1) : 0 < y1 * B + y0 := by
  have := Nat.mul_pos (show 0 < y1 by omega) hB
  omega

theorem digit_lt (hB : 0 < B) (hy : B ≤ 2 * y1) (hu : u < y1 * B + y0) (h1 : u1 < B) : (u * B + u1) / (y1 * B + y0) < B := by
  rw [Nat.div_lt_iff_lt_mul (digit_pos hB hy), Nat.mul_comm B]
  generalize y1 * B + y0 = Y at *
  have := Nat.mul_le_mul_right B (show u + 1 ≤ Y by omega)
  rw [Nat.add_mul] at this
  omega

theorem digit_key (hu : u = q * y1 + r) : q * (y1 * B + y0) + r * B = u * B + q * y0 := by
  subst hu
  rw [Nat.mul_add, Nat.add_mul, ← Nat.mul_assoc]
  omega

/-- At the start. -/
theorem digit_start (hB : 0 < B) (hy : B ≤ 2 * y1) (h1 : u1 < B) : Digit B u y1 y0 u1 (u / y1) (u % y1) := by
  refine ⟨by rw [Nat.mul_comm]; exact (Nat.div_add_mod u y1).symm, ?_⟩
  have e : (u * B + u1) / (y1 * B + y0) ≤ (u * B + u1) / (y1 * B) := Nat.div_le_div_left (by omega) (Nat.mul_pos (by omega) hB)
  refine Nat.le_trans e ?_
  rw [Nat.mul_comm y1, ← Nat.div_div_eq_div_mul]
  have : (u * B + u1) / B = u := by rw [Nat.mul_comm, Nat.mul_add_div hB, Nat.div_eq_of_lt h1]; rfl
  rw [this]; exact Nat.le_refl _

theorem digit_first (hy : B ≤ 2 * y1) (h0 : y0 < B) (hu : u < y1 * B + y0) : u / y1 ≤ B + 1 := by
  have : u / y1 < B + 2 := by
    rw [Nat.div_lt_iff_lt_mul (by omega), Nat.add_mul, Nat.mul_comm B]
    omega
  omega

/-- One that is too great: one less is not less than the digit. -/
theorem digit_big (d : Digit B u y1 y0 u1 q r) (hB : 0 < B) (hy : B ≤ 2 * y1) (hu : u < y1 * B + y0) (h1 : u1 < B) (h : B ≤ q) :
    1 ≤ q ∧ Digit B u y1 y0 u1 (q - 1) (r + y1) := by
  have hl := digit_lt hB hy hu h1
  obtain ⟨du, dq⟩ := d
  refine ⟨by omega, ?_, by omega⟩
  obtain ⟨p, rfl⟩ : ∃ p, q = p + 1 := ⟨q - 1, by omega⟩
  rw [Nat.add_mul] at du
  simp only [Nat.add_sub_cancel]
  omega

theorem digit_over (d : Digit B u y1 y0 u1 q r) (hB : 0 < B) (hy : B ≤ 2 * y1) (h : r * B + u1 < q * y0) : 1 ≤ q ∧ Digit B u y1 y0 u1 (q - 1) (r + y1) := by
  obtain ⟨du, dq⟩ := d
  have hq0 : 1 ≤ q := by
    rcases Nat.eq_zero_or_pos q with h0 | h0
    · subst h0; omega
    · exact h0
  refine ⟨hq0, ?_, ?_⟩
  · obtain ⟨p, rfl⟩ : ∃ p, q = p + 1 := ⟨q - 1, by omega⟩
    rw [Nat.add_mul] at du
    simp only [Nat.add_sub_cancel]
    omega
  · have hk := digit_key (B := B) (y0 := y0) du
    have : (u * B + u1) / (y1 * B + y0) < q := by
      rw [Nat.div_lt_iff_lt_mul (digit_pos hB hy)]
      generalize q * (y1 * B + y0) = A at *
      omega
    omega

/-- The loop's end by its test. -/
theorem digit_end (d : Digit B u y1 y0 u1 q r) (hB : 0 < B) (hy : B ≤ 2 * y1) (h : q * y0 ≤ r * B + u1) : q = (u * B + u1) / (y1 * B + y0) := by
  obtain ⟨du, dq⟩ := d
  have hk := digit_key (B := B) (y0 := y0) du
  have : q ≤ (u * B + u1) / (y1 * B + y0) := by
    rw [Nat.le_div_iff_mul_le (digit_pos hB hy)]
    generalize q * (y1 * B + y0) = A at *
    omega
  omega

/-- The loop's end by its break. -/
theorem digit_break (d : Digit B u y1 y0 u1 q r) (hB : 0 < B) (hy : B ≤ 2 * y1) (h0 : y0 < B) (hq : q ≤ B) (hr : B ≤ r) :
    q = (u * B + u1) / (y1 * B + y0) := by
  refine digit_end d hB hy ?_
  have h1 := Nat.mul_le_mul hq (show y0 ≤ B by omega)
  have h2 := Nat.mul_le_mul_right B hr
  omega

/-- Two digits make the quotient, and what is left the remainder. -/
theorem two_digits (n y a1 a0 U : Nat) (hU : U = (n * B + a1) * B + a0) (hy : 0 < y) :
    (n * B + a1) / y * B + ((n * B + a1) % y * B + a0) / y = U / y ∧ ((n * B + a1) % y * B + a0) % y = U % y := by
  generalize n * B + a1 = A at *
  have e : U = y * (A / y * B) + (A % y * B + a0) := by
    have := Nat.div_add_mod A y
    rw [hU, ← Nat.mul_assoc, ← Nat.add_assoc, ← Nat.add_mul, this]
  constructor
  · rw [e, Nat.mul_add_div hy]
  · rw [e, Nat.mul_add_mod]
end

/-- The division is the same where both are shifted. -/
theorem shifted (U y s : Nat) : U * 2 ^ s / (y * 2 ^ s) = U / y ∧ U * 2 ^ s % (y * 2 ^ s) / 2 ^ s = U % y := by
  have hp : 0 < 2 ^ s := Nat.two_pow_pos s
  constructor
  · exact Nat.mul_div_mul_right _ _ hp
  · rw [Nat.mul_mod_mul_right, Nat.mul_div_cancel _ hp]

/-- THE LONG DIVISION, one step: the bits 'top' that have come are q b + r; a bit more comes. -/
theorem long_step (q r b bit top : Nat) (hbit : bit ≤ 1) (ht : top = q * b + r) (hr : r < b) :
    (b ≤ 2 * r + bit → 2 * top + bit = (2 * q + 1) * b + (2 * r + bit - b) ∧ 2 * r + bit - b < b) ∧
      (2 * r + bit < b → 2 * top + bit = 2 * q * b + (2 * r + bit)) := by
  subst ht
  constructor
  · intro h
    rw [Nat.add_mul, Nat.mul_assoc]
    omega
  · intro h
    rw [Nat.mul_assoc]
    omega
end Go.Proofs.Ytfhikdgdckfalaa.DivLaw
