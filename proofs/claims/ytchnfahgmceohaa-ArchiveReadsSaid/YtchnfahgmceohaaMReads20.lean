/- bytes.Equal and bytes.HasPrefix, bytes.CutPrefix with the archive's first bytes. -/
import Derived.Test.YtchnfahgmceohaaMReads12
import Derived.Lib.Bytes
import Derived.Test.YtchnfahgmceohaaMReads10
import Derived.Test.YtchnfahgmceohaaMReads06
import Derived.Test.YtchnfahgmceohaaMReads18
import Derived.Maps.AppendAt

namespace Go.Proofs.Ytchnfahgmceohaa
open Go.RowKit
set_option linter.unusedVariables false

theorem strOfNums_inj : ∀ {bs cs : List Int}, (∀ z ∈ bs, 0 ≤ z ∧ z ≤ 255) → (∀ z ∈ cs, 0 ≤ z ∧ z ≤ 255) → (strOfNums bs).toList = (strOfNums cs).toList → bs = cs := by
  have key : ∀ (bs cs : List Int), (∀ z ∈ bs, 0 ≤ z ∧ z ≤ 255) → (∀ z ∈ cs, 0 ≤ z ∧ z ≤ 255) → (bs.map fun n => UInt8.ofNat n.toNat) = (cs.map fun n => UInt8.ofNat n.toNat) → bs = cs := by
    intro bs
    induction bs with
    | nil => intro cs _ _ h; cases cs; rfl; simp at h
    | cons b bs ih =>
      intro cs hb hc h
      cases cs with
      | nil => simp at h
      | cons c cs =>
        simp only [List.map_cons, List.cons.injEq] at h
        have h1 := congrArg UInt8.toNat h.1
        have b1 := hb b (by simp)
        have c1 := hc c (by simp)
        simp only [UInt8.toNat_ofNat'] at h1
        have e : b = c := by omega
        rw [e, ih cs (fun z hz => hb z (List.mem_cons_of_mem _ hz)) (fun z hz => hc z (List.mem_cons_of_mem _ hz)) h.2]
  intro bs cs hb hc h
  refine key bs cs hb hc ?_
  rw [Go.Lib.strOfNums_toList, Go.Lib.strOfNums_toList] at h
  exact h

theorem equalB_calls {A A' : Option Addr} {n c n' c' : Nat} {bs cs : List Int} (w : World) (h : Byts w A n c bs) (h' : Byts w A' n' c' cs) :
    Calls Try.prog 13 #[.slice A n c, .slice A' n' c'] w fun e w' => e = .returned (.bool (decide (bs = cs))) ∧ w = w' := by
  have k1 := h.convert 25 5 9 Try.underlying25 Try.underlying5 Try.underlying9
  have k2 := h'.convert 25 5 9 Try.underlying25 Try.underlying5 Try.underlying9
  have hi : decide (bs = cs) = decide ((strOfNums bs).toList = (strOfNums cs).toList) := by
    rw [Bool.eq_iff_iff, decide_eq_true_eq, decide_eq_true_eq]
    exact ⟨fun e => by rw [e], strOfNums_inj h.rng h'.rng⟩
  rw [hi]
  generalize strOfNums bs = s at *
  generalize strOfNums cs = s' at *
  clear h h' hi
  by_cases hs : s.toList = s'.toList
  · rw [decide_eq_true hs]
    go_enter Try.func13, Try.ntmps13
    go_wp2
    go_ret
    exact ⟨by simp, rfl⟩
  · rw [decide_eq_false hs]
    go_enter Try.func13, Try.ntmps13
    go_wp2
    go_ret
    exact ⟨by simp [hs], rfl⟩

set_option maxHeartbeats 1000000 in
theorem hasPrefix_calls {A A' : Option Addr} {n c c' : Nat} {bs cs : List Int} (w : World) (h : Byts w A n c bs) (h' : Byts w A' 3 c' cs) :
    Calls Try.prog 63 #[.slice A n c, .slice A' 3 c'] w fun e w' => e = .returned (.bool (decide (bs.take 3 = cs))) ∧ w = w' := by
  have hcap := h.cap
  have hmax := h.max
  by_cases h3 : (3 : Int) ≤ n
  · have eq := equalB_calls w (h.take (k := 3) (by omega)) h'
    have EQ := Lib.hid eq
    generalize decide (bs.take 3 = cs) = V at *
    clear h h' eq
    go_enter Try.func63, Try.ntmps63
    go_wp2_with fail
    refine (EQ.out).mono ?_
    rintro e w1 ⟨rfl, rfl⟩
    go_wp2
    go_ret
    exact ⟨rfl, rfl⟩
  · have hl := h.len
    have hl' := h'.len
    rw [decide_eq_false (by intro e; have := congrArg List.length e; rw [List.length_take] at this; omega)]
    clear h h' hl hl'
    go_enter Try.func63, Try.ntmps63
    go_wp2
    go_ret
    exact ⟨rfl, rfl⟩

/-- What CutPrefix hands back where the prefix is there. -/
def RetCut (A : Option Addr) (n : Nat) (bs : List Int) (w : World) (e : Ending) (w' : World) : Prop :=
  w' = w ∧ ∃ A1 n1 c1, e = .returned (.tuple #[.slice A1 n1 c1, .bool true]) ∧ Byts w A1 n1 c1 (bs.drop 3) ∧ ∀ a, A1 = some a → ∃ a0, A = some a0 ∧ a.block = a0.block
set_option maxHeartbeats 1000000 in
theorem cutPrefix_no {A A' : Option Addr} {n c c' : Nat} {bs cs : List Int} (w : World) (h : Byts w A n c bs) (h' : Byts w A' 3 c' cs) (hno : ¬ bs.take 3 = cs) :
    Calls Try.prog 44 #[.slice A n c, .slice A' 3 c'] w fun e w' => e = .returned (.tuple #[.slice A n c, .bool false]) ∧ w' = w := by
  have hp := hasPrefix_calls w h h'
  rw [decide_eq_false hno] at hp
  have HP := Lib.hid hp
  have hcap := h.cap
  have hmax := h.max
  clear h h' hp
  go_enter Try.func44, Try.ntmps44
  go_wp2_with fail
  refine (HP.out).mono ?_
  rintro e w1 ⟨rfl, rfl⟩
  go_wp2
  go_returns
  exact ⟨rfl, rfl⟩
set_option maxHeartbeats 1000000 in
theorem cutPrefix_calls {A A' : Option Addr} {n c c' : Nat} {bs cs : List Int} (w : World) (h : Byts w A n c bs) (h' : Byts w A' 3 c' cs) (hyes : bs.take 3 = cs) :
    Calls Try.prog 44 #[.slice A n c, .slice A' 3 c'] w (RetCut A n bs w) := by
  have hp := hasPrefix_calls w h h'
  rw [decide_eq_true hyes] at hp
  have HP := Lib.hid hp
  have hn : 3 ≤ n := by
    have h1 := h.len
    have h2 := h'.len
    have := congrArg List.length hyes
    rw [List.length_take] at this
    omega
  have hcap := h.cap
  have hmax := h.max
  have hdr := h.drop hn
  obtain ⟨ad, rfl, -, -⟩ := h.at_ (show 0 < n by omega)
  clear h h' hp hyes
  by_cases hc : c = 3
  · subst hc
    obtain rfl : n = 3 := by omega
    rw [if_pos rfl] at hdr
    have HDR := Lib.hid hdr
    clear hdr
    go_enter Try.func44, Try.ntmps44
    go_wp2_with fail
    refine (HP.out).mono ?_
    rintro e w1 ⟨rfl, rfl⟩
    go_wp2
    go_returns
    exact ⟨rfl, _, _, _, rfl, HDR.out, fun a e => ⟨ad, rfl, by injection e with e; rw [e]⟩⟩
  · rw [if_neg hc] at hdr
    have HDR := Lib.hid hdr
    clear hdr
    go_enter Try.func44, Try.ntmps44
    go_wp2_with fail
    refine (HP.out).mono ?_
    rintro e w1 ⟨rfl, rfl⟩
    go_wp2
    go_returns
    exact ⟨rfl, _, _, _, rfl, HDR.out, fun a e => ⟨ad, rfl, by injection e with e; rw [← e]⟩⟩
end Go.Proofs.Ytchnfahgmceohaa

/- A slice of records that the call itself makes and appends to. -/
namespace Go.Proofs.Ytchnfahgmceohaa
open Go.RowKit
set_option linter.unusedVariables false

theorem info_ser : (Try.prog.info? 36).map (fun i => (i.zero, i.size, i.bytes)) = some (some (.agg #[.int .i64 0, .int .i64 0, .slice none 0 0]), 3, 40) := by kernel_rfl
theorem sl_append_lt {ss : List SerD} {s : SerD} {j : Nat} (h : j < ss.length) : sl (ss ++ [s]) j = sl ss j := by
  unfold sl; rw [List.getD_eq_getElem?_getD, List.getD_eq_getElem?_getD, List.getElem?_append_left h]
theorem sl_append_eq {ss : List SerD} {s : SerD} : sl (ss ++ [s]) ss.length = s := by
  unfold sl; rw [List.getD_eq_getElem?_getD, List.getElem?_append_right (Nat.le_refl _)]; simp
theorem grown_below {w w' : World} (h : Below w.heap.size w w') (row : Option Nat) : w.grownBy w' row := ⟨h.os, h.tape, h.output, h.size, fun k hk _ => h.block k hk⟩

/-- The slice value v is the call's own (from block B on), and reads as the records ss; their depths lie in other blocks. -/
structure OwnS (w : World) (B : Nat) (v : Value) (ss : List SerD) : Prop where
  row : ∃ cs, w.ownsRow B 36 3 v ss.length cs ∧ cs.length = 3 * ss.length ∧ ∀ j, j < ss.length → ∃ A n c, cs[3 * j]? = some (.int .i64 (sl ss j).f) ∧ cs[3 * j + 1]? = some (.int .i64 (sl ss j).st) ∧ cs[3 * j + 2]? = some (.slice A n c) ∧ Ints w A n c (sl ss j).ds ∧ (0 < n → ∀ ad, A = some ad → B ≤ ad.block ∧ v.ownBlock ≠ some ad.block)
  few : ss.length ≤ 1000
theorem OwnS.nil (w : World) (B : Nat) : OwnS w B (.slice none 0 0) [] := ⟨⟨[], World.ownsRow_nil _ _ _ _, rfl, fun j hj => absurd hj (by simp)⟩, by simp⟩
theorem OwnS.below {w w' : World} {B : Nat} {v : Value} {ss : List SerD} (h : OwnS w B v ss) (hb : Below w.heap.size w w') : OwnS w' B v ss := by
  obtain ⟨cs, h1, h2, h3⟩ := h.row
  refine ⟨⟨cs, h1.kept (row := none) (grown_below hb none) ?_, h2, fun j hj => ?_⟩, h.few⟩
  · rcases hv : v.ownBlock with _ | k
    · exact .inl rfl
    · exact .inr (by simp)
  · obtain ⟨A, n, c, e0, e1, e2, hi, hA⟩ := h3 j hj
    exact ⟨A, n, c, e0, e1, e2, hi.below hb, hA⟩
theorem OwnS.lt {w : World} {B : Nat} {v : Value} {ss : List SerD} (h : OwnS w B v ss) {k : Nat} (hk : v.ownBlock = some k) : B ≤ k ∧ k < w.heap.size := by
  obtain ⟨cs, h1, _⟩ := h.row
  exact h1.lt k hk
theorem OwnS.fresh {w : World} {B : Nat} {v : Value} {ss : List SerD} (h : OwnS w B v ss) (hB : B ≤ w.heap.size) {A : Option Addr} {n : Nat} (hA : ∀ ad, A = some ad → w.heap.size ≤ ad.block) : 0 < n → ∀ ad, A = some ad → B ≤ ad.block ∧ v.ownBlock ≠ some ad.block := fun _ ad e => ⟨by have := hA ad e; omega, fun hv => by
  have := (h.lt hv).2
  have := hA ad e
  omega⟩
/-- A write to a block below B leaves it. -/
theorem OwnS.grown {w w' : World} {B p : Nat} {v : Value} {ss : List SerD} (h : OwnS w B v ss) (hg : w.grownBy w' (some p)) (hp : p < B) : OwnS w' B v ss := by
  obtain ⟨cs, h1, h2, h3⟩ := h.row
  refine ⟨⟨cs, h1.kept (row := some p) hg ?_, h2, fun j hj => ?_⟩, h.few⟩
  · rcases hv : v.ownBlock with _ | k
    · exact .inl rfl
    · exact .inr (by have := (h.lt hv).1; intro e; injection e with e; omega)
  · obtain ⟨A, n, c, e0, e1, e2, hi, hA⟩ := h3 j hj
    refine ⟨A, n, c, e0, e1, e2, hi.keep hg.size fun ad i e hi' => ?_, hA⟩
    have hlt : ad.block < w.heap.size := by
      obtain ⟨ad', e', hl, _⟩ := hi.mem (by omega)
      rw [e] at e'
      injection e' with e'
      rw [e']; exact hl
    have hb := hg.block ad.block hlt (fun e2 => by have := (hA (by omega) ad e).1; injection e2 with e2; omega)
    exact World.cell?_of_block (by rw [block_of_add]; exact hb)
theorem OwnS.sers {w : World} {B : Nat} {v : Value} {ss : List SerD} (h : OwnS w B v ss) : ∃ A n c, v = .slice A n c ∧ Sers w A n c ss ∧ ∀ ad, A = some ad → B ≤ ad.block := by
  obtain ⟨cs, h1, h2, h3⟩ := h.row
  have hf := h.few
  rcases h1.2 with ⟨rfl, hn⟩ | ⟨g, cap, cur, rfl, hb, hg, hnc, hm, hsz, htk⟩
  · have : ss = [] := List.eq_nil_of_length_eq_zero hn
    subst this
    exact ⟨none, 0, 0, rfl, Sers.nil w, fun ad e => by cases e⟩
  · refine ⟨some ⟨g, 0, none⟩, ss.length, cap, rfl, ⟨rfl, hnc, hm, by omega, fun hn => ⟨_, rfl, (h1.lt g rfl).2, fun j hj => ?_⟩, fun e => by cases e⟩, fun ad e => by injection e with e; subst e; exact hb⟩
    obtain ⟨A, n, c, e0, e1, e2, hi, _⟩ := h3 j hj
    have k0 := h1.cells rfl (3 * j) _ e0
    have k1 := h1.cells rfl (3 * j + 1) _ e1
    have k2 := h1.cells rfl (3 * j + 2) _ e2
    rw [Addr.add_lit, Nat.zero_add] at k0 k1 k2
    rw [show j * 3 = 3 * j by omega, Addr.add_lit, Nat.zero_add]
    exact ⟨A, n, c, k0, k1, k2, hi⟩

theorem wpList_append_ser {ops : Array Oper} {rest : List Oper} {o : Oper} {a : Act} {Q : Exit → Act → World → Prop} (w : World) (B : Nat) (v : Value) (ss : List SerD) (A : Option Addr) (n c : Nat) (s0 : SerD)
    (hgd : o.guard = none) (s y : Operand) (ho : o.op = .call { callee := .builtin .append, args := #[s, y], argTypes := #[22, 22] })
    (hs : a.eval s = v) (hx : a.eval y = .slice (some ⟨w.heap.size, 0, none⟩) 1 1) (hown : OwnS w B v ss) (hi : Ints w A n c s0.ds) (hA : 0 < n → ∀ ad, A = some ad → B ≤ ad.block ∧ v.ownBlock ≠ some ad.block) (hB : B ≤ w.heap.size) (hf : ss.length < 1000)
    (h : ∀ v' w', OwnS w' B v' (ss ++ [s0]) → Below B w w' → wpList Try.prog ops Q rest (a.put o.dst v') w') : wpList Try.prog ops Q (o :: rest) a (w.alloc (serO s0.f s0.st A n c)) := by
  obtain ⟨i0, hi0, hz0, hz1, hz2⟩ := info_parts info_ser
  obtain ⟨cs, h1, h2, h3⟩ := hown.row
  refine wpList_append_own_at _ hgd s y 22 ho B 36 i0 (.agg #[.int .i64 0, .int .i64 0, .slice none 0 0]) 3 40 Try.underlying22 hi0 hz0 hz1 hz2 rfl (by decide) v ss.length cs hs (h1.alloc _) ⟨w.heap.size, 0, none⟩ 1 1 [.int .i64 s0.f, .int .i64 s0.st, .slice A n c] hx rfl ?_ ?_ ?_ ?_ ?_ ?_
  · intro j u hj
    match j, hj with
    | 0, hj => simp at hj; subst hj; simp [Addr.add]
    | 1, hj => simp at hj; subst hj; simp [Addr.add]
    | 2, hj => simp at hj; subst hj; simp [Addr.add]
  · intro u hu; simp at hu; rcases hu with rfl | rfl | rfl <;> rfl
  · unfold maxLen; omega
  · omega
  · simp; omega
  · intro v' w' ho' hg _ hat
    have hbel : Below B w w' := ((Below.refl B w).alloc hB _).grown hg (by simp; omega) (fun k hk => ((h1.alloc (serO s0.f s0.st A n c)).lt k hk).1)
    have keep : ∀ (A' : Option Addr) (n' c' : Nat) (z : List Int), Ints w A' n' c' z → (0 < n' → ∀ ad, A' = some ad → B ≤ ad.block ∧ v.ownBlock ≠ some ad.block) → Ints w' A' n' c' z ∧ (0 < n' → ∀ ad, A' = some ad → B ≤ ad.block ∧ v'.ownBlock ≠ some ad.block) := by
      intro A' n' c' z hz hne
      by_cases hn0 : 0 < n'
      · obtain ⟨ad, e, hlt, hc⟩ := hz.mem hn0
        subst e
        refine ⟨hz.keep (by have := hg.size; simp at this; omega) fun ad' j e hj => ?_, fun _ ad' e => ⟨by obtain rfl := Option.some.inj e; exact (hne hn0 ad rfl).1, fun hv => ?_⟩⟩
        · obtain rfl := Option.some.inj e
          have hbk := hg.block ad.block (by simp; omega) (fun e => (hne hn0 ad rfl).2 e.symm)
          have : (w.alloc (serO s0.f s0.st A n c)).cell? (ad.add j) = w.cell? (ad.add j) := World.cell?_alloc_lt _ _ _ (by rw [block_of_add]; exact hlt)
          rw [← this]
          exact World.cell?_of_block (by rw [block_of_add]; exact hbk)
        · obtain rfl := Option.some.inj e
          rcases hat with e | e
          · exact (hne hn0 ad rfl).2 (by rw [← e]; exact hv)
          · rw [e] at hv
            injection hv with hv
            simp at hv
            omega
      · have h0 : n' = 0 := by omega
        subst h0
        exact ⟨⟨hz.len, hz.cap, hz.max, hz.few, hz.rng, fun h => absurd h (by omega), hz.nl⟩, fun h => absurd h (by omega)⟩
    have hl : (ss ++ [s0]).length = ss.length + 1 := by simp
    refine h v' w' ⟨⟨cs ++ [.int .i64 s0.f, .int .i64 s0.st, .slice A n c], by rw [hl]; exact ho', by simp [h2]; omega, fun j hj => ?_⟩, by rw [hl]; omega⟩ hbel
    rw [hl] at hj
    by_cases hjl : j < ss.length
    · obtain ⟨A', n', c', e0, e1, e2, hi', hA'⟩ := h3 j hjl
      obtain ⟨k1, k2⟩ := keep A' n' c' _ hi' hA'
      rw [sl_append_lt hjl]
      exact ⟨A', n', c', by rw [List.getElem?_append_left (by omega)]; exact e0, by rw [List.getElem?_append_left (by omega)]; exact e1, by rw [List.getElem?_append_left (by omega)]; exact e2, k1, k2⟩
    · obtain rfl : j = ss.length := by omega
      obtain ⟨k1, k2⟩ := keep A n c s0.ds hi hA
      rw [sl_append_eq]
      exact ⟨A, n, c, by rw [List.getElem?_append_right (by omega), h2]; simp, by rw [List.getElem?_append_right (by omega), h2, show 3 * ss.length + 1 - 3 * ss.length = 1 by omega]; rfl, by rw [List.getElem?_append_right (by omega), h2, show 3 * ss.length + 2 - 3 * ss.length = 2 by omega]; rfl, k1, k2⟩
end Go.Proofs.Ytchnfahgmceohaa
