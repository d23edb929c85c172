/- bytes.Equal and bytes.HasPrefix, bytes.CutPrefix with the archive's first bytes. -/
import Derived.Test.YtchnfahgmceohaaEqB
import Derived.Lib.Bytes
namespace Go.Proofs.Ytchnfahgmceohaa
open Go.RowKit
set_option linter.unusedVariables false

theorem strOfNums_inj : ∀ {bs cs : List Int}, (∀ z ∈ bs, 0 ≤ z ∧ z ≤ 255) → (∀ z ∈ cs, 0 ≤ z ∧ z ≤ 255) → (strOfNums bs).toList = (strOfNums cs).toList → bs = cs := by
  have key : ∀ (bs cs : List Int), (∀ z ∈ bs, 0 ≤ z ∧ z ≤ 255) → (∀ z ∈ cs, 0 ≤ z ∧ z ≤ 255) → (bs.map fun n => UInt8.ofNat n.toNat) = (cs.map fun n => UInt8.ofNat n.toNat) → bs = cs := by
    intro bs
    induction bs with
    | nil => intro cs _ _ h; cases cs; rfl; simp at h
    | cons b bs ih =>
      intro cs hb hc h
      cases cs with
      | nil => simp at h
      | cons c cs =>
        simp only [List.map_cons, List.cons.injEq] at h
        have h1 := congrArg UInt8.toNat h.1
        have b1 := hb b (by simp)
        have c1 := hc c (by simp)
        simp only [UInt8.toNat_ofNat'] at h1
        have e : b = c := by omega
        rw [e, ih cs (fun z hz => hb z (List.mem_cons_of_mem _ hz)) (fun z hz => hc z (List.mem_cons_of_mem _ hz)) h.2]
  intro bs cs hb hc h
  refine key bs cs hb hc ?_
  rw [Go.Lib.strOfNums_toList, Go.Lib.strOfNums_toList] at h
  exact h

theorem equalB_calls {A A' : Option Addr} {n c n' c' : Nat} {bs cs : List Int} (w : World) (h : Byts w A n c bs) (h' : Byts w A' n' c' cs) :
    Calls Try.prog 13 #[.slice A n c, .slice A' n' c'] w fun e w' => e = .returned (.bool (decide (bs = cs))) ∧ w = w' := by
  have k1 := h.convert 25 5 9 Try.underlying25 Try.underlying5 Try.underlying9
  have k2 := h'.convert 25 5 9 Try.underlying25 Try.underlying5 Try.underlying9
  have hi : decide (bs = cs) = decide ((strOfNums bs).toList = (strOfNums cs).toList) := by
    rw [Bool.eq_iff_iff, decide_eq_true_eq, decide_eq_true_eq]
    exact ⟨fun e => by rw [e], strOfNums_inj h.rng h'.rng⟩
  rw [hi]
  generalize strOfNums bs = s at *
  generalize strOfNums cs = s' at *
  clear h h' hi
  by_cases hs : s.toList = s'.toList
  · rw [decide_eq_true hs]
    go_enter Try.func13, Try.ntmps13
    go_wp2
    go_ret
    exact ⟨by simp, rfl⟩
  · rw [decide_eq_false hs]
    go_enter Try.func13, Try.ntmps13
    go_wp2
    go_ret
    exact ⟨by simp [hs], rfl⟩

set_option maxHeartbeats 1000000 in
theorem hasPrefix_calls {A A' : Option Addr} {n c c' : Nat} {bs cs : List Int} (w : World) (h : Byts w A n c bs) (h' : Byts w A' 3 c' cs) :
    Calls Try.prog 63 #[.slice A n c, .slice A' 3 c'] w fun e w' => e = .returned (.bool (decide (bs.take 3 = cs))) ∧ w = w' := by
  have hcap := h.cap
  have hmax := h.max
  by_cases h3 : (3 : Int) ≤ n
  · have eq := equalB_calls w (h.take (k := 3) (by omega)) h'
    have EQ := Lib.hid eq
    generalize decide (bs.take 3 = cs) = V at *
    clear h h' eq
    go_enter Try.func63, Try.ntmps63
    go_wp2_with fail
    refine (EQ.out).mono ?_
    rintro e w1 ⟨rfl, rfl⟩
    go_wp2
    go_ret
    exact ⟨rfl, rfl⟩
  · have hl := h.len
    have hl' := h'.len
    rw [decide_eq_false (by intro e; have := congrArg List.length e; rw [List.length_take] at this; omega)]
    clear h h' hl hl'
    go_enter Try.func63, Try.ntmps63
    go_wp2
    go_ret
    exact ⟨rfl, rfl⟩

/-- What CutPrefix hands back where the prefix is there. -/
def RetCut (A : Option Addr) (n : Nat) (bs : List Int) (w : World) (e : Ending) (w' : World) : Prop :=
  w' = w ∧ ∃ A1 n1 c1, e = .returned (.tuple #[.slice A1 n1 c1, .bool true]) ∧ Byts w A1 n1 c1 (bs.drop 3) ∧ ∀ a, A1 = some a → ∃ a0, A = some a0 ∧ a.block = a0.block
set_option maxHeartbeats 1000000 in
theorem cutPrefix_no {A A' : Option Addr} {n c c' : Nat} {bs cs : List Int} (w : World) (h : Byts w A n c bs) (h' : Byts w A' 3 c' cs) (hno : ¬ bs.take 3 = cs) :
    Calls Try.prog 44 #[.slice A n c, .slice A' 3 c'] w fun e w' => e = .returned (.tuple #[.slice A n c, .bool false]) ∧ w' = w := by
  have hp := hasPrefix_calls w h h'
  rw [decide_eq_false hno] at hp
  have HP := Lib.hid hp
  have hcap := h.cap
  have hmax := h.max
  clear h h' hp
  go_enter Try.func44, Try.ntmps44
  go_wp2_with fail
  refine (HP.out).mono ?_
  rintro e w1 ⟨rfl, rfl⟩
  go_wp2
  go_returns
  exact ⟨rfl, rfl⟩
set_option maxHeartbeats 1000000 in
theorem cutPrefix_calls {A A' : Option Addr} {n c c' : Nat} {bs cs : List Int} (w : World) (h : Byts w A n c bs) (h' : Byts w A' 3 c' cs) (hyes : bs.take 3 = cs) :
    Calls Try.prog 44 #[.slice A n c, .slice A' 3 c'] w (RetCut A n bs w) := by
  have hp := hasPrefix_calls w h h'
  rw [decide_eq_true hyes] at hp
  have HP := Lib.hid hp
  have hn : 3 ≤ n := by
    have h1 := h.len
    have h2 := h'.len
    have := congrArg List.length hyes
    rw [List.length_take] at this
    omega
  have hcap := h.cap
  have hmax := h.max
  have hdr := h.drop hn
  obtain ⟨ad, rfl, -, -⟩ := h.at_ (show 0 < n by omega)
  clear h h' hp hyes
  by_cases hc : c = 3
  · subst hc
    obtain rfl : n = 3 := by omega
    rw [if_pos rfl] at hdr
    have HDR := Lib.hid hdr
    clear hdr
    go_enter Try.func44, Try.ntmps44
    go_wp2_with fail
    refine (HP.out).mono ?_
    rintro e w1 ⟨rfl, rfl⟩
    go_wp2
    go_returns
    exact ⟨rfl, _, _, _, rfl, HDR.out, fun a e => ⟨ad, rfl, by injection e with e; rw [e]⟩⟩
  · rw [if_neg hc] at hdr
    have HDR := Lib.hid hdr
    clear hdr
    go_enter Try.func44, Try.ntmps44
    go_wp2_with fail
    refine (HP.out).mono ?_
    rintro e w1 ⟨rfl, rfl⟩
    go_wp2
    go_returns
    exact ⟨rfl, _, _, _, rfl, HDR.out, fun a e => ⟨ad, rfl, by injection e with e; rw [← e]⟩⟩
end Go.Proofs.Ytchnfahgmceohaa
