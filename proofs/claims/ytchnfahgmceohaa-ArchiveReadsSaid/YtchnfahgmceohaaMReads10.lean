/- Slices of records that read as lists. -/
import Derived.Test.YtchnfahgmceohaaMReads06
import Derived.Test.YtchnfahgmceohaaMReads09
import Derived.Test.YtchnfahgmceohaaMReads03

namespace Go.Proofs.Ytchnfahgmceohaa
open Go.RowKit
set_option linter.unusedVariables false

/-- A record: its beginning, its step, its depths. -/
structure SerD where
  f : Int
  st : Int
  ds : List Int
/-- The element k of a list of records. -/
def sl (ss : List SerD) (k : Nat) : SerD := ss.getD k ⟨0, 0, []⟩
theorem sl_mem {ss : List SerD} {k : Nat} (h : k < ss.length) : sl ss k ∈ ss := by
  unfold sl; rw [List.getD_eq_getElem?_getD, List.getElem?_eq_getElem h]; exact List.getElem_mem h
theorem sl_of_mem {ss : List SerD} {l : SerD} (h : l ∈ ss) : ∃ k, k < ss.length ∧ sl ss k = l := by
  obtain ⟨k, hk, rfl⟩ := List.getElem_of_mem h
  exact ⟨k, hk, by unfold sl; rw [List.getD_eq_getElem?_getD, List.getElem?_eq_getElem hk]; rfl⟩
theorem sl_take {ss : List SerD} {k : Nat} (h : k < ss.length) : ss.take (k + 1) = ss.take k ++ [sl ss k] := by
  rw [List.take_succ_eq_append_getElem h]
  congr 2
  unfold sl; rw [List.getD_eq_getElem?_getD, List.getElem?_eq_getElem h]; rfl
/-- At the address q a record lies. -/
structure SerAt (w : World) (q : Addr) (s : SerD) : Prop where
  c : ∃ A n c, w.cell? q = some (.int .i64 s.f) ∧ w.cell? ⟨q.block, q.off + 1, none⟩ = some (.int .i64 s.st) ∧ w.cell? ⟨q.block, q.off + 2, none⟩ = some (.slice A n c) ∧ Ints w A n c s.ds
theorem SerAt.below {w w' : World} {q : Addr} {s : SerD} (h : SerAt w q s) (hl : q.block < w.heap.size) (hb : Below w.heap.size w w') : SerAt w' q s := by
  obtain ⟨A, n, c, h0, h1, h2, h3⟩ := h.c
  exact ⟨A, n, c, (hb.cell (p := q) hl).trans h0, (hb.cell (p := ⟨q.block, q.off + 1, none⟩) hl).trans h1, (hb.cell (p := ⟨q.block, q.off + 2, none⟩) hl).trans h2, h3.below hb⟩
/-- The slice with base A, length n, capacity c reads as the records ss. -/
structure Sers (w : World) (A : Option Addr) (n c : Nat) (ss : List SerD) : Prop where
  len : ss.length = n
  cap : n ≤ c
  max : c ≤ 9223372036854775807
  few : n ≤ 17592186044416
  mem : 0 < n → ∃ ad, A = some ad ∧ ad.block < w.heap.size ∧ ∀ j, j < n → SerAt w (ad.add (j * 3)) (sl ss j)
  nl : A = none → c = 0
section
variable {w w' : World} {A : Option Addr} {n c : Nat} {ss : List SerD}
theorem Sers.nil (w : World) : Sers w none 0 0 [] := ⟨rfl, Nat.le_refl _, by omega, by omega, fun h => absurd h (by omega), fun _ => rfl⟩
theorem Sers.at_ (h : Sers w A n c ss) {k : Nat} (hk : k < n) : ∃ ad, A = some ad ∧ ad.block < w.heap.size ∧ SerAt w (ad.add (k * 3)) (sl ss k) := by
  obtain ⟨ad, e, hb, hc⟩ := h.mem (by omega)
  exact ⟨ad, e, hb, hc k hk⟩
theorem Sers.below (h : Sers w A n c ss) (hb : Below w.heap.size w w') : Sers w' A n c ss :=
  ⟨h.len, h.cap, h.max, h.few, fun hn => by
    obtain ⟨ad, e, hl, hc⟩ := h.mem hn
    exact ⟨ad, e, Nat.lt_of_lt_of_le hl hb.size, fun j hj => (hc j hj).below (by rw [block_of_add]; exact hl) hb⟩, h.nl⟩
theorem Sers.alloc (h : Sers w A n c ss) (o : Obj) : Sers (w.alloc o) A n c ss := h.below ((Below.refl _ _).alloc (Nat.le_refl _) o)
theorem Sers.drewN (h : Sers w A n c ss) (k : Nat) : Sers (w.drewN k) A n c ss := h.below (below_drewN (Below.refl _ _) k)
end
end Go.Proofs.Ytchnfahgmceohaa

/- Encode of the program. -/
namespace Go.Proofs.Ytchnfahgmceohaa
open Go.RowKit
set_option linter.unusedVariables false

def validD (s : SerD) : Bool := validS s.f s.st s.ds
def recD (s : SerD) : List Int := recL s.f s.st s.ds
/-- The archive of the first k records. -/
def encTo (ss : List SerD) (k : Nat) : List Int := [82, 65, 1] ++ (ss.take k).flatMap recD
def encL (ss : List SerD) : List Int := [82, 65, 1] ++ ss.flatMap recD
theorem encTo_succ {ss : List SerD} {k : Nat} (h : k < ss.length) : encTo ss (k + 1) = encTo ss k ++ recD (sl ss k) := by
  unfold encTo; rw [sl_take h]; simp
theorem encTo_all (ss : List SerD) : encTo ss ss.length = encL ss := by unfold encTo encL; rw [List.take_length]
theorem encTo_len {ss : List SerD} (hd : ∀ s ∈ ss, s.ds.length ≤ 200) : ∀ k, k ≤ ss.length → (encTo ss k).length ≤ 3 + 4054 * k
  | 0, _ => by simp [encTo]
  | k + 1, hk => by
    rw [encTo_succ (by omega)]
    have h1 := encTo_len hd k (by omega)
    have h2 := hd _ (sl_mem (show k < ss.length by omega))
    have h3 := (recL_len (sl ss k).f (sl ss k).st (sl ss k).ds).2
    rw [List.length_append]
    unfold recD
    omega
def allV (ss : List SerD) : Bool := ss.all validD
def EncV (ss : List SerD) : List Int × Int := if 1000 < ss.length then ([], 4) else if allV ss = true then (encL ss, 0) else ([], 1)
/-- What a function hands back that returns bytes and an error number. -/
def RetZ (bs : List Int) (x : Int) (w : World) (e : Ending) (w' : World) : Prop := ∃ v, e = .returned (.tuple #[v, .int .i64 x]) ∧ OwnB w' w.heap.size v bs ∧ Below w.heap.size w w'
theorem RetZ.none_ {w w' : World} {x : Int} (hb : Below w.heap.size w w') : RetZ [] x w (.returned (.tuple #[.slice none 0 0, .int .i64 x])) w' := ⟨_, rfl, OwnB.nil _ _, hb⟩

theorem head_calls (w : World) : Calls Try.prog 37 #[] w (RetY [82, 65, 1] w) := by
  have O := Lib.hid (OwnB.lit3 w)
  have HB := Lib.hid ((Below.refl w.heap.size w).alloc (Nat.le_refl _) (.cells #[.int .u8 82, .int .u8 65, .int .u8 1] 5))
  go_enter Try.func37, Try.ntmps37
  go_wp2
  go_ret
  exact ⟨_, rfl, O.out, HB.out⟩

set_option maxRecDepth 100000 in
set_option maxHeartbeats 2000000 in
theorem Encode_in {A : Option Addr} {n c : Nat} {ss : List SerD} (w : World) (h : Sers w A n c ss) (hn : (n : Int) ≤ 8) (hd : ∀ s ∈ ss, s.ds.length ≤ 200) (hv : allV ss = true) :
    Calls Try.prog 11 #[.slice A n c] w (RetZ (encL ss) 0 w) := by
  have hcap := h.cap
  have hmax := h.max
  have H := Lib.hid h
  have HL := Lib.hid h.len
  have HD := Lib.hid hd
  have HV := Lib.hid (show ∀ k, k < n → validD (sl ss k) = true from fun k hk => by
    unfold allV at hv; rw [List.all_eq_true] at hv; exact hv _ (sl_mem (by rw [h.len]; exact hk)))
  clear h hd hv
  go_enter Try.func11, Try.ntmps11
  go_wp2
  go_loopw [14] (fun i wr => ∃ k : Nat, k ≤ n ∧ i = .int .i64 k ∧ Below w.heap.size w wr) (fun i _ => n - (intOf i).toNat)
  case atStart => exact ⟨0, Nat.zero_le _, rfl, Below.refl _ _⟩
  case round =>
    obtain ⟨k, hk, rfl, hbe⟩ := hrel
    generalize wr = wo at *
    have HBE := Lib.hid hbe
    by_cases hlt : k < n
    · obtain ⟨ad, rfl, hl, ⟨A1, n1, c1, q0, q1, q2, qi⟩⟩ := (H.out.below hbe).at_ hlt
      have gv := gValid_calls (sl ss k).f (sl ss k).st (wo.alloc (serO (sl ss k).f (sl ss k).st A1 n1 c1)) (qi.alloc _)
      rw [show validS (sl ss k).f (sl ss k).st (sl ss k).ds = true from HV.out k hlt] at gv
      have GV := Lib.hid gv
      clear gv qi hbe
      generalize (sl ss k).f = f at *
      generalize (sl ss k).st = st at *
      go_wp2_with fail
      refine (GV.out).mono ?_
      rintro e w1 ⟨rfl, b1⟩
      have HB1 := Lib.hid (HBE.out.trans (((Below.refl wo.heap.size wo).alloc (Nat.le_refl _) (serO f st A1 n1 c1)).trans (b1.mono (by simp)) |>.mono HBE.out.size))
      clear b1
      go_wp2
      go_roundw
      case rel => exact ⟨k + 1, by omega, by go_num, HB1.out⟩
      case measure => simp [intOf]; try omega
    · obtain rfl : k = n := by omega
      have hl0 := HL.out
      have O0 := Lib.hid ((head_calls wo))
      clear hbe
      go_wp2_with fail
      refine (O0.out).mono ?_
      rintro e w1 ⟨v1, rfl, o1, b1⟩
      have O1 := Lib.hid (o1.mono HBE.out.size)
      have HB1 := Lib.hid (HBE.out.trans (b1.mono HBE.out.size))
      clear o1 b1 O0 hl0
      go_wp2
      go_loopw [6, 25] (fun t i wr => ∃ j : Nat, j ≤ k ∧ i = .int .i64 j ∧ OwnB wr w.heap.size t (encTo ss j) ∧ Below w.heap.size w wr) (fun _ i _ => k - (intOf i).toNat)
      case atStart => exact ⟨0, Nat.zero_le _, rfl, O1.out, HB1.out⟩
      case round =>
        obtain ⟨j, hj, rfl, ho, hbe⟩ := hrel
        generalize wr = wo2 at *
        have HBE2 := Lib.hid hbe
        have HO2 := Lib.hid ho
        by_cases hlt : j < k
        · obtain ⟨ad, rfl, hl, ⟨A1, n1, c1, q0, q1, q2, qi⟩⟩ := (H.out.below hbe).at_ hlt
          have hjl : j < ss.length := by rw [HL.out]; exact hlt
          have rc := record_calls (sl ss j).f (sl ss j).st (wo2.alloc (serO (sl ss j).f (sl ss j).st A1 n1 c1)) (qi.alloc _) (HV.out j hlt)
          have HE : Hid (encTo ss (j + 1) = encTo ss j ++ recL (sl ss j).f (sl ss j).st (sl ss j).ds) := Lib.hid (encTo_succ hjl)
          have h1 := encTo_len HD.out j (by omega)
          have h2 := HD.out _ (sl_mem hjl)
          have h3 := (recL_len (sl ss j).f (sl ss j).st (sl ss j).ds).2
          have h4 := encTo_len HD.out (j + 1) (by omega)
          have RC := Lib.hid rc
          clear rc qi hbe ho
          generalize recL (sl ss j).f (sl ss j).st (sl ss j).ds = R at *
          generalize (sl ss j).f = f at *
          generalize (sl ss j).st = st at *
          generalize (sl ss j).ds.length = dl at *
          go_wp2_with fail
          refine (RC.out).mono ?_
          rintro e w3 ⟨v3, rfl, o3, b3⟩
          obtain ⟨A3, n3, c3, rfl, y3, -⟩ := o3.ints
          have O2 := Lib.hid ((HO2.out.below ((Below.refl _ _).alloc (Nat.le_refl _) (serO f st A1 n1 c1))).below b3)
          have Y3 := Lib.hid y3
          have HB3 := Lib.hid (HBE2.out.trans (((Below.refl wo2.heap.size wo2).alloc (Nat.le_refl _) (serO f st A1 n1 c1)).trans (b3.mono (by simp)) |>.mono HBE2.out.size))
          clear o3 b3 y3
          go_wp2_with (at_builtin; refine wpList_append_bytes w3 w.heap.size _ (encTo ss j) A3 n3 c3 R rfl _ _ rfl rfl rfl O2.out HB3.out.size Y3.out (by omega) ?_)
          intro v4 w4 o4 b4
          rw [← HE.out] at o4
          obtain ⟨A4, n4, c4, rfl, y4, -⟩ := o4.ints
          obtain rfl : n4 = (encTo ss (j + 1)).length := y4.len.symm
          have O4 := Lib.hid o4
          have HB4 := Lib.hid (HB3.out.trans b4)
          have hmb : ((encTo ss (j + 1)).length : Int) ≤ 1048576 := by omega
          clear o4 b4 y4
          generalize (encTo ss (j + 1)).length = L at *
          go_wp2
          go_roundw
          case rel => exact ⟨j + 1, by omega, by go_num, O4.out, HB4.out⟩
          case measure => simp [intOf]; try omega
        · obtain rfl : j = k := by omega
          have O5 : Hid (OwnB wo2 w.heap.size u6 (encL ss)) := Lib.hid (by have := HO2.out; rw [← HL.out, encTo_all] at this; exact this)
          clear hbe ho
          go_wp2
          go_returns
          exact ⟨_, rfl, O5.out, HBE2.out⟩

set_option maxRecDepth 100000 in
set_option maxHeartbeats 2000000 in
theorem Encode_bad {A : Option Addr} {n c : Nat} {ss : List SerD} (w : World) (h : Sers w A n c ss) (hn : (n : Int) ≤ 1000) (hv : allV ss = false) :
    Calls Try.prog 11 #[.slice A n c] w (RetZ [] 1 w) := by
  have hcap := h.cap
  have hmax := h.max
  have H := Lib.hid h
  have HL := Lib.hid h.len
  have HV := Lib.hid hv
  clear h hv
  go_enter Try.func11, Try.ntmps11
  go_wp2
  go_loopw [14] (fun i wr => ∃ k : Nat, k ≤ n ∧ i = .int .i64 k ∧ (∀ j, j < k → validD (sl ss j) = true) ∧ Below w.heap.size w wr) (fun i _ => n - (intOf i).toNat)
  case atStart => exact ⟨0, Nat.zero_le _, rfl, fun j hj => absurd hj (by omega), Below.refl _ _⟩
  case round =>
    obtain ⟨k, hk, rfl, hall, hbe⟩ := hrel
    generalize wr = wo at *
    have HBE := Lib.hid hbe
    have HALL := Lib.hid hall
    clear hall
    by_cases hlt : k < n
    · obtain ⟨ad, rfl, hl, ⟨A1, n1, c1, q0, q1, q2, qi⟩⟩ := (H.out.below hbe).at_ hlt
      have gv := gValid_calls (sl ss k).f (sl ss k).st (wo.alloc (serO (sl ss k).f (sl ss k).st A1 n1 c1)) (qi.alloc _)
      have HS : Hid (validD (sl ss k) = true → ∀ j, j < k + 1 → validD (sl ss j) = true) := Lib.hid fun h j hj => by
        by_cases hjk : j = k
        · subst hjk; exact h
        · exact HALL.out j (by omega)
      rw [show validS (sl ss k).f (sl ss k).st (sl ss k).ds = validD (sl ss k) from rfl] at gv
      generalize validD (sl ss k) = q at *
      have GV := Lib.hid gv
      clear gv qi hbe
      generalize (sl ss k).f = f at *
      generalize (sl ss k).st = st at *
      cases q
      · go_wp2_with fail
        refine (GV.out).mono ?_
        rintro e w1 ⟨rfl, b1⟩
        have HB1 := Lib.hid (HBE.out.trans (((Below.refl wo.heap.size wo).alloc (Nat.le_refl _) (serO f st A1 n1 c1)).trans (b1.mono (by simp)) |>.mono HBE.out.size))
        clear b1
        go_wp2
        go_returns
        exact RetZ.none_ HB1.out
      · have HX := Lib.hid (HS.out rfl)
        go_wp2_with fail
        refine (GV.out).mono ?_
        rintro e w1 ⟨rfl, b1⟩
        have HB1 := Lib.hid (HBE.out.trans (((Below.refl wo.heap.size wo).alloc (Nat.le_refl _) (serO f st A1 n1 c1)).trans (b1.mono (by simp)) |>.mono HBE.out.size))
        clear b1
        go_wp2
        go_roundw
        case rel => exact ⟨k + 1, by omega, by go_num, HX.out, HB1.out⟩
        case measure => simp [intOf]; try omega
    · obtain rfl : k = n := by omega
      exfalso
      have : allV ss = true := by
        unfold allV
        rw [List.all_eq_true]
        intro s hs
        obtain ⟨j, hj, rfl⟩ := sl_of_mem hs
        exact HALL.out j (by rw [← HL.out]; exact hj)
      rw [HV.out] at this
      cases this

theorem Encode_full {A : Option Addr} {n c : Nat} (w : World) (hcap : n ≤ c) (hmax : c ≤ 9223372036854775807) (hn : 1000 < (n : Int)) :
    Calls Try.prog 11 #[.slice A n c] w (RetZ [] 4 w) := by
  go_enter Try.func11, Try.ntmps11
  go_wp2
  go_returns
  exact RetZ.none_ (Below.refl _ _)

/-- Records that the laws look at: at most eight, or too many; those valid have at most 200 depths. -/
def FewR (ss : List SerD) : Prop := (ss.length ≤ 8 ∨ 1000 < ss.length) ∧ ∀ s ∈ ss, s.ds.length ≤ 200 ∨ 10000 < s.ds.length
theorem few_valid {ss : List SerD} (h : FewR ss) (hv : allV ss = true) : ∀ s ∈ ss, s.ds.length ≤ 200 := fun s hs => by
  rcases h.2 s hs with h1 | h1
  · exact h1
  · unfold allV at hv
    rw [List.all_eq_true] at hv
    have := (validS_parts (hv s hs)).1.n1
    omega
theorem Encode_calls {A : Option Addr} {n c : Nat} {ss : List SerD} (w : World) (h : Sers w A n c ss) (hf : FewR ss) :
    Calls Try.prog 11 #[.slice A n c] w (RetZ (EncV ss).1 (EncV ss).2 w) := by
  unfold EncV
  by_cases h1 : 1000 < ss.length
  · rw [if_pos h1]
    exact Encode_full w h.cap h.max (by rw [h.len] at h1; omega)
  · rw [if_neg h1]
    have h8 : n ≤ 8 := by have := hf.1; rw [h.len] at this h1; omega
    cases hv : allV ss
    · rw [if_neg (by decide)]
      exact Encode_bad w h (by omega) hv
    · rw [if_pos rfl]
      exact Encode_in w h (by omega) (few_valid hf hv) hv
end Go.Proofs.Ytchnfahgmceohaa
