/- Looking through a list with the closure of gauge.Valid. -/
import Derived.Test.YtfhikdgdckfalaaMB01

namespace Go.Proofs.Ytfhikdgdckfalaa
open Go.RowKit
set_option linter.unusedVariables false

/-- Whether z is no depth. -/
def badD (z : Int) : Bool := decide (z < -1) || decide (4194304 < z)
theorem gval1_calls (z : Int) (w : World) :
    Calls Try.prog 73 #[.int .i64 z] w fun e w' => e = .returned (.bool (badD z)) ∧ w = w' := by
  unfold badD
  by_cases h : z < -1
  · rw [decide_eq_true h, Bool.true_or]
    go_enter Try.func73, Try.ntmps73
    go_wp2
    go_ret
    exact ⟨rfl, rfl⟩
  · rw [decide_eq_false h, Bool.false_or]
    go_enter Try.func73, Try.ntmps73
    go_wp2
    go_ret
    exact ⟨rfl, rfl⟩

set_option maxHeartbeats 1000000 in
theorem indexFunc_dep {A : Option Addr} {n c : Nat} {zs : List Int} (w : World) (h : Ints w A n c zs) :
    Calls Try.prog 85 #[.slice A n c, .func (.func 73) #[] #[]] w (Found badD zs w) := by
  have hcap := h.cap
  have hmax := h.max
  have hfew := h.few
  have HL := Lib.hid h.len
  have H := Lib.hid h
  have hcl := fun z => gval1_calls z w
  have HC := Lib.hid hcl
  clear h hcl
  go_enter Try.func85, Try.ntmps85
  go_wp2
  go_loop [8] (fun i => ∃ k : Nat, k ≤ n ∧ i = .int .i64 k ∧ ∀ j, j < k → badD (el zs j) = false) (fun i => n - (intOf i).toNat)
  case atStart => exact ⟨0, Nat.zero_le _, rfl, fun j hj => absurd hj (by omega)⟩
  case round =>
    obtain ⟨k, hk, rfl, hno⟩ := hrel
    have HN := Lib.hid hno
    clear hno
    by_cases hlt : k < n
    · obtain ⟨ad, rfl, hl, hc⟩ := H.out.at_ hlt
      cases hbad : badD (el zs k)
      · have HB := Lib.hid hbad
        have hcl := HC.out (el zs k)
        rw [hbad] at hcl
        have HCL := Lib.hid hcl
        clear hbad hcl
        go_wp2_with fail
        refine (HCL.out).mono ?_
        rintro e w' ⟨rfl, rfl⟩
        go_wp2
        go_round
        case rel => exact ⟨k + 1, by omega, by go_num, fun j hj => by
          by_cases hjk : j = k
          · subst hjk; exact HB.out
          · exact HN.out j (by omega)⟩
        case measure => simp [intOf]; try omega
      · have HB := Lib.hid hbad
        have hcl := HC.out (el zs k)
        rw [hbad] at hcl
        have HCL := Lib.hid hcl
        clear hbad hcl
        go_wp2_with fail
        refine (HCL.out).mono ?_
        rintro e w' ⟨rfl, rfl⟩
        go_wp2
        go_ret
        exact ⟨k, rfl, rfl, by omega, by omega, by rw [any_at (by rw [HL.out]; exact hlt) HB.out, decide_eq_true (by omega)]⟩
    · go_wp2
      go_ret
      exact ⟨-1, rfl, rfl, by omega, by omega, by rw [any_take (fun j hj => HN.out j (by rw [HL.out] at hj; omega))]; rfl⟩
theorem containsFunc_dep {A : Option Addr} {n c : Nat} {zs : List Int} (w : World) (h : Ints w A n c zs) :
    Calls Try.prog 72 #[.slice A n c, .func (.func 73) #[] #[]] w fun e w' => e = .returned (.bool (zs.any badD)) ∧ w = w' := by
  have HI := Lib.hid (indexFunc_dep w h)
  clear h
  go_enter Try.func72, Try.ntmps72
  go_wp2_with fail
  refine (HI.out).mono ?_
  rintro e w' ⟨r, rfl, rfl, hr0, hr1, hr⟩
  have HR := Lib.hid hr
  clear hr
  go_wp2
  go_ret
  exact ⟨ret_b HR.out.symm, rfl⟩
end Go.Proofs.Ytfhikdgdckfalaa

/- A record of rainfall by value: its box; whether it is valid. -/
namespace Go.Proofs.Ytfhikdgdckfalaa
open Go.RowKit
set_option linter.unusedVariables false

/-- A record by value. -/
abbrev serA (f st : Int) (A : Option Addr) (n c : Nat) : Value := .agg #[.int .i64 f, .int .i64 st, .slice A n c]
abbrev serO (f st : Int) (A : Option Addr) (n c : Nat) : Obj := .cells #[.int .i64 f, .int .i64 st, .slice A n c] 25
/-- Block p holds a record. -/
structure SBox (w : World) (p : Nat) (f st : Int) (A : Option Addr) (n c : Nat) : Prop where
  c0 : w.cell? ⟨p, 0, none⟩ = some (.int .i64 f)
  c1 : w.cell? ⟨p, 1, none⟩ = some (.int .i64 st)
  c2 : w.cell? ⟨p, 2, none⟩ = some (.slice A n c)
  lt : p < w.heap.size
theorem SBox.made (w : World) (f st : Int) (A : Option Addr) (n c : Nat) : SBox (w.alloc (serO f st A n c)) w.heap.size f st A n c :=
  ⟨by rw [World.cell?_alloc_new]; rfl, by rw [World.cell?_alloc_new]; rfl, by rw [World.cell?_alloc_new]; rfl, by simp⟩
theorem SBox.below {w w' : World} {p : Nat} {f st : Int} {A : Option Addr} {n c : Nat} (h : SBox w p f st A n c) {B : Nat} (hb : Below B w w') (hp : p < B) : SBox w' p f st A n c :=
  ⟨(hb.cell (p := ⟨p, 0, none⟩) hp).trans h.c0, (hb.cell (p := ⟨p, 1, none⟩) hp).trans h.c1, (hb.cell (p := ⟨p, 2, none⟩) hp).trans h.c2, Nat.lt_of_lt_of_le h.lt hb.size⟩
theorem SBox.alloc {w : World} {p : Nat} {f st : Int} {A : Option Addr} {n c : Nat} (h : SBox w p f st A n c) (o : Obj) : SBox (w.alloc o) p f st A n c := h.below ((Below.refl w.heap.size _).alloc (Nat.le_refl _) o) h.lt

def instB (t : Int) : Bool := decide (-68719476736 ≤ t) && decide (t ≤ 68719476736)
def lenB (s : Int) : Bool := decide (1 ≤ s) && decide (s ≤ 86400)
def frameB (f st : Int) (n : Nat) : Bool := instB f && (lenB st && (decide (n ≤ 10000) && instB (f + st * n)))
def validS (f st : Int) (ds : List Int) : Bool := frameB f st ds.length && !ds.any badD
theorem instB_iff {t : Int} : instB t = true ↔ -68719476736 ≤ t ∧ t ≤ 68719476736 := by unfold instB; simp
theorem lenB_iff {t : Int} : lenB t = true ↔ 1 ≤ t ∧ t ≤ 86400 := by unfold lenB; simp
structure FrameOk (f st : Int) (n : Nat) : Prop where
  f0 : -68719476736 ≤ f
  f1 : f ≤ 68719476736
  s0 : 1 ≤ st
  s1 : st ≤ 86400
  n1 : n ≤ 10000
  e0 : -68719476736 ≤ f + st * n
  e1 : f + st * n ≤ 68719476736
theorem frameB_iff {f st : Int} {n : Nat} : frameB f st n = true ↔ FrameOk f st n := by
  unfold frameB
  rw [Bool.and_eq_true, Bool.and_eq_true, Bool.and_eq_true, instB_iff, lenB_iff, instB_iff, decide_eq_true_eq]
  exact ⟨fun h => ⟨h.1.1, h.1.2, h.2.1.1, h.2.1.2, h.2.2.1, h.2.2.2.1, h.2.2.2.2⟩, fun h => ⟨⟨h.f0, h.f1⟩, ⟨h.s0, h.s1⟩, h.n1, h.e0, h.e1⟩⟩
theorem dep_of {ds : List Int} (h : ds.any badD = false) : ∀ z ∈ ds, -1 ≤ z ∧ z ≤ 4194304 := by
  rw [List.any_eq_false] at h
  intro z hz
  have := h z hz
  unfold badD at this
  simp at this
  omega
theorem validS_parts {f st : Int} {ds : List Int} (h : validS f st ds = true) : FrameOk f st ds.length ∧ (∀ z ∈ ds, -1 ≤ z ∧ z ≤ 4194304) := by
  unfold validS at h
  rw [Bool.and_eq_true, frameB_iff, Bool.not_eq_true'] at h
  exact ⟨h.1, dep_of h.2⟩

theorem ginst_calls (t : Int) (w : World) : Calls Try.prog 71 #[.int .i64 t] w fun e w' => e = .returned (.bool (instB t)) ∧ w = w' := by
  unfold instB
  by_cases h : -68719476736 ≤ t
  · rw [decide_eq_true h, Bool.true_and]
    go_enter Try.func71, Try.ntmps71
    go_wp2
    go_ret
    exact ⟨rfl, rfl⟩
  · rw [decide_eq_false h, Bool.false_and]
    go_enter Try.func71, Try.ntmps71
    go_wp2
    go_ret
    exact ⟨rfl, rfl⟩
theorem Instant_ref (t : Int) (w : World) : Calls Try.prog 54 #[.int .i64 t] w fun e w' => e = .returned (.bool (instB t)) ∧ w = w' := by
  unfold instB
  by_cases h : -68719476736 ≤ t
  · rw [decide_eq_true h, Bool.true_and]
    go_enter Try.func54, Try.ntmps54
    go_wp2
    go_ret
    exact ⟨rfl, rfl⟩
  · rw [decide_eq_false h, Bool.false_and]
    go_enter Try.func54, Try.ntmps54
    go_wp2
    go_ret
    exact ⟨rfl, rfl⟩
theorem Length_ref (t : Int) (w : World) : Calls Try.prog 55 #[.int .i64 t] w fun e w' => e = .returned (.bool (lenB t)) ∧ w = w' := by
  unfold lenB
  by_cases h : 1 ≤ t
  · rw [decide_eq_true h, Bool.true_and]
    go_enter Try.func55, Try.ntmps55
    go_wp2
    go_ret
    exact ⟨rfl, rfl⟩
  · rw [decide_eq_false h, Bool.false_and]
    go_enter Try.func55, Try.ntmps55
    go_wp2
    go_ret
    exact ⟨rfl, rfl⟩

set_option maxHeartbeats 2000000 in
set_option maxRecDepth 100000 in
theorem gValid_calls {A : Option Addr} {n c : Nat} {ds : List Int} (f st : Int) (w : World) (h : Ints w A n c ds) :
    Calls Try.prog 56 #[serA f st A n c] w fun e w' => e = .returned (.bool (validS f st ds)) ∧ Below w.heap.size w w' := by
  have hcap := h.cap
  have hmax := h.max
  have S := SBox.made w f st A n c
  have HB := Lib.hid ((Below.refl w.heap.size w).alloc (Nat.le_refl _) (serO f st A n c))
  unfold validS
  rw [h.len]
  obtain ⟨s0, s1, s2, sl⟩ := S
  cases hf : frameB f st n
  · rw [Bool.false_and]
    unfold frameB at hf
    have i1 := fun W => ginst_calls f W
    cases hi : instB f
    · rw [hi] at i1
      have I1 := Lib.hid i1
      clear h hf hi i1
      go_enter Try.func56, Try.ntmps56
      go_wp2_with fail
      refine (I1.out _).mono ?_
      rintro e w1 ⟨rfl, rfl⟩
      go_wp2
      go_ret
      exact ⟨rfl, HB.out⟩
    rw [hi, Bool.true_and] at hf
    rw [hi] at i1
    have I1 := Lib.hid i1
    by_cases h1 : st < 1
    · clear h hf hi i1
      go_enter Try.func56, Try.ntmps56
      go_wp2_with fail
      refine (I1.out _).mono ?_
      rintro e w1 ⟨rfl, rfl⟩
      go_wp2
      go_ret
      exact ⟨rfl, HB.out⟩
    by_cases h2 : 86400 < st
    · clear h hf hi i1
      go_enter Try.func56, Try.ntmps56
      go_wp2_with fail
      refine (I1.out _).mono ?_
      rintro e w1 ⟨rfl, rfl⟩
      go_wp2
      go_ret
      exact ⟨rfl, HB.out⟩
    rw [lenB_iff.2 (by omega), Bool.true_and] at hf
    by_cases h3 : 10000 < (n : Int)
    · clear h hf hi i1
      go_enter Try.func56, Try.ntmps56
      go_wp2_with fail
      refine (I1.out _).mono ?_
      rintro e w1 ⟨rfl, rfl⟩
      go_wp2
      go_ret
      exact ⟨rfl, HB.out⟩
    rw [decide_eq_true (show n ≤ 10000 by omega), Bool.true_and] at hf
    obtain ⟨P, hP⟩ : ∃ P, st * (n : Int) = P := ⟨_, rfl⟩
    have hp0 : 0 ≤ P := by rw [← hP]; exact Int.mul_nonneg (by omega) (by omega)
    have hp1 : P ≤ 86400 * 10000 := by rw [← hP]; exact Int.mul_le_mul (by omega) (by omega) (by omega) (by omega)
    have i2 := fun W => ginst_calls (f + st * n) W
    rw [hf, hP] at i2
    have hff := instB_iff.1 hi
    have I2 := Lib.hid i2
    clear h hf hi i1 i2
    go_enter Try.func56, Try.ntmps56
    go_wp2_with fail
    refine (I1.out _).mono ?_
    rintro e w1 ⟨rfl, rfl⟩
    go_wp2_with fail
    refine (I2.out _).mono ?_
    rintro e w1 ⟨rfl, rfl⟩
    go_wp2
    go_ret
    exact ⟨rfl, HB.out⟩
  · rw [Bool.true_and]
    obtain ⟨f0, f1, k0, k1, n1, e0, e1⟩ := frameB_iff.1 hf
    have i1 := fun W => ginst_calls f W
    rw [instB_iff.2 ⟨f0, f1⟩] at i1
    have i2 := fun W => ginst_calls (f + st * n) W
    rw [instB_iff.2 ⟨e0, e1⟩] at i2
    obtain ⟨P, hP⟩ : ∃ P, st * (n : Int) = P := ⟨_, rfl⟩
    have hp0 : 0 ≤ P := by rw [← hP]; exact Int.mul_nonneg (by omega) (by omega)
    have hp1 : P ≤ 86400 * 10000 := by rw [← hP]; exact Int.mul_le_mul (by omega) (by omega) (by omega) (by omega)
    rw [hP] at i2 e0 e1
    have cf := containsFunc_dep (w.alloc (serO f st A n c)) (h.alloc _)
    generalize ds.any badD = q at *
    have CF := Lib.hid cf
    have I1 := Lib.hid i1
    have I2 := Lib.hid i2
    have h3 : ¬ 10000 < (n : Int) := by omega
    have h1 : ¬ st < 1 := by omega
    have h2 : ¬ 86400 < st := by omega
    clear h hf i1 i2 cf
    go_enter Try.func56, Try.ntmps56
    go_wp2_with fail
    refine (I1.out _).mono ?_
    rintro e w1 ⟨rfl, rfl⟩
    go_wp2_with fail
    refine (I2.out _).mono ?_
    rintro e w1 ⟨rfl, rfl⟩
    go_wp2_with fail
    refine (CF.out).mono ?_
    rintro e w1 ⟨rfl, rfl⟩
    go_wp2
    go_ret
    exact ⟨rfl, HB.out⟩
end Go.Proofs.Ytfhikdgdckfalaa

/- Slices of records that read as lists. -/
namespace Go.Proofs.Ytfhikdgdckfalaa
open Go.RowKit
set_option linter.unusedVariables false

/-- A record: its beginning, its step, its depths. -/
structure SerD where
  f : Int
  st : Int
  ds : List Int
/-- The element k of a list of records. -/
def sl (ss : List SerD) (k : Nat) : SerD := ss.getD k ⟨0, 0, []⟩
theorem sl_mem {ss : List SerD} {k : Nat} (h : k < ss.length) : sl ss k ∈ ss := by
  unfold sl; rw [List.getD_eq_getElem?_getD, List.getElem?_eq_getElem h]; exact List.getElem_mem h
theorem sl_of_mem {ss : List SerD} {l : SerD} (h : l ∈ ss) : ∃ k, k < ss.length ∧ sl ss k = l := by
  obtain ⟨k, hk, rfl⟩ := List.getElem_of_mem h
  exact ⟨k, hk, by unfold sl; rw [List.getD_eq_getElem?_getD, List.getElem?_eq_getElem hk]; rfl⟩
theorem sl_take {ss : List SerD} {k : Nat} (h : k < ss.length) : ss.take (k + 1) = ss.take k ++ [sl ss k] := by
  rw [List.take_succ_eq_append_getElem h]
  congr 2
  unfold sl; rw [List.getD_eq_getElem?_getD, List.getElem?_eq_getElem h]; rfl
/-- At the address q a record lies. -/
structure SerAt (w : World) (q : Addr) (s : SerD) : Prop where
  c : ∃ A n c, w.cell? q = some (.int .i64 s.f) ∧ w.cell? ⟨q.block, q.off + 1, none⟩ = some (.int .i64 s.st) ∧ w.cell? ⟨q.block, q.off + 2, none⟩ = some (.slice A n c) ∧ Ints w A n c s.ds
theorem SerAt.below {w w' : World} {q : Addr} {s : SerD} (h : SerAt w q s) (hl : q.block < w.heap.size) (hb : Below w.heap.size w w') : SerAt w' q s := by
  obtain ⟨A, n, c, h0, h1, h2, h3⟩ := h.c
  exact ⟨A, n, c, (hb.cell (p := q) hl).trans h0, (hb.cell (p := ⟨q.block, q.off + 1, none⟩) hl).trans h1, (hb.cell (p := ⟨q.block, q.off + 2, none⟩) hl).trans h2, h3.below hb⟩
/-- The slice with base A, length n, capacity c reads as the records ss. -/
structure Sers (w : World) (A : Option Addr) (n c : Nat) (ss : List SerD) : Prop where
  len : ss.length = n
  cap : n ≤ c
  max : c ≤ 9223372036854775807
  few : n ≤ 17592186044416
  mem : 0 < n → ∃ ad, A = some ad ∧ ad.block < w.heap.size ∧ ∀ j, j < n → SerAt w (ad.add (j * 3)) (sl ss j)
  nl : A = none → c = 0
section
variable {w w' : World} {A : Option Addr} {n c : Nat} {ss : List SerD}
theorem Sers.nil (w : World) : Sers w none 0 0 [] := ⟨rfl, Nat.le_refl _, by omega, by omega, fun h => absurd h (by omega), fun _ => rfl⟩
theorem Sers.at_ (h : Sers w A n c ss) {k : Nat} (hk : k < n) : ∃ ad, A = some ad ∧ ad.block < w.heap.size ∧ SerAt w (ad.add (k * 3)) (sl ss k) := by
  obtain ⟨ad, e, hb, hc⟩ := h.mem (by omega)
  exact ⟨ad, e, hb, hc k hk⟩
theorem Sers.below (h : Sers w A n c ss) (hb : Below w.heap.size w w') : Sers w' A n c ss :=
  ⟨h.len, h.cap, h.max, h.few, fun hn => by
    obtain ⟨ad, e, hl, hc⟩ := h.mem hn
    exact ⟨ad, e, Nat.lt_of_lt_of_le hl hb.size, fun j hj => (hc j hj).below (by rw [block_of_add]; exact hl) hb⟩, h.nl⟩
theorem Sers.alloc (h : Sers w A n c ss) (o : Obj) : Sers (w.alloc o) A n c ss := h.below ((Below.refl _ _).alloc (Nat.le_refl _) o)
theorem Sers.drewN (h : Sers w A n c ss) (k : Nat) : Sers (w.drewN k) A n c ss := h.below (below_drewN (Below.refl _ _) k)
end
end Go.Proofs.Ytfhikdgdckfalaa
