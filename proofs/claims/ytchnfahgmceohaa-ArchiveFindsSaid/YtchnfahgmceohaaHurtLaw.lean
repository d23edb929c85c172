/- A byte that is changed in the payload, or the sum, of a record is found. No program in sight. -/
import Derived.Test.YtchnfahgmceohaaDecLaw
namespace Go.Proofs.Ytchnfahgmceohaa
open Go.RowKit
set_option linter.unusedVariables false

theorem sumS_inj {s t x : Int} (h0 : 0 ≤ s) (h1 : s < 4294967296) (g0 : 0 ≤ t) (g1 : t < 4294967296) (h : sumS s x = sumS t x) : s = t := by
  unfold sumS at h
  omega
theorem sumS_inj2 {s x y : Int} (h0 : 0 ≤ x) (h1 : x ≤ 255) (g0 : 0 ≤ y) (g1 : y ≤ 255) (h : sumS s x = sumS s y) : x = y := by
  unfold sumS at h
  omega
theorem el_set_same {bs : List Int} {q : Nat} (y : Int) (h : q < bs.length) : el (bs.set q y) q = y := by
  unfold el; rw [List.getD_eq_getElem?_getD, List.getElem?_set_self h]; rfl
theorem el_set_ne {bs : List Int} {q k : Nat} (y : Int) (h : ¬ q = k) : el (bs.set q y) k = el bs k := by
  unfold el; rw [List.getD_eq_getElem?_getD, List.getD_eq_getElem?_getD, List.getElem?_set_ne h]
theorem sumTo_before {bs : List Int} {q : Nat} (y : Int) : ∀ k, k ≤ q → sumTo (bs.set q y) k = sumTo bs k
  | 0, _ => rfl
  | k + 1, h => by rw [sumTo, sumTo, sumTo_before y k (by omega), el_set_ne y (by omega)]
theorem sumTo_hurt {bs : List Int} {q : Nat} {y : Int} (hq : q < bs.length) (hr : ∀ k, 0 ≤ el bs k ∧ el bs k ≤ 255) (hy : 0 ≤ y ∧ y ≤ 255) (hne : ¬ y = el bs q) : ∀ k, ¬ sumTo (bs.set q y) (q + 1 + k) = sumTo bs (q + 1 + k)
  | 0 => by
    rw [Nat.add_zero, sumTo, sumTo, sumTo_before y q (Nat.le_refl _), el_set_same y hq]
    intro h
    exact hne (sumS_inj2 hy.1 hy.2 (hr q).1 (hr q).2 h)
  | k + 1 => by
    have ih := sumTo_hurt hq hr hy hne k
    have b0 := sumTo_bd (bs.set q y) (q + 1 + k)
    have b1 := sumTo_bd bs (q + 1 + k)
    rw [show q + 1 + (k + 1) = (q + 1 + k) + 1 by omega, sumTo, sumTo, el_set_ne y (by omega)]
    intro h
    exact ih (sumS_inj b0.1 b0.2 b1.1 b1.2 h)
theorem sumB_hurt {bs : List Int} {q : Nat} {y : Int} (hq : q < bs.length) (hr : ∀ k, 0 ≤ el bs k ∧ el bs k ≤ 255) (hy : 0 ≤ y ∧ y ≤ 255) (hne : ¬ y = el bs q) : ¬ sumB (bs.set q y) = sumB bs := by
  have h := sumTo_hurt hq hr hy hne (bs.length - (q + 1))
  rw [show q + 1 + (bs.length - (q + 1)) = bs.length by omega] at h
  unfold sumB
  rw [List.length_set]
  exact h
theorem val4_hurt {l : List Int} {q : Nat} {y : Int} (hl : l.length = 4) (hq : q < 4) (hne : ¬ y = el l q) : ¬ val4 (l.set q y) = val4 l := by
  match l, hl with
  | [a, b, c, d], _ =>
    match q, hq with
    | 0, _ => show ¬ ((y * 256 + b) * 256 + c) * 256 + d = ((a * 256 + b) * 256 + c) * 256 + d; have : ¬ y = a := hne; omega
    | 1, _ => show ¬ ((a * 256 + y) * 256 + c) * 256 + d = ((a * 256 + b) * 256 + c) * 256 + d; have : ¬ y = b := hne; omega
    | 2, _ => show ¬ ((a * 256 + b) * 256 + y) * 256 + d = ((a * 256 + b) * 256 + c) * 256 + d; have : ¬ y = c := hne; omega
    | 3, _ => show ¬ ((a * 256 + b) * 256 + c) * 256 + y = ((a * 256 + b) * 256 + c) * 256 + d; have : ¬ y = d := hne; omega
theorem el_rng {bs : List Int} (h : ∀ z ∈ bs, 0 ≤ z ∧ z ≤ 255) (k : Nat) : 0 ≤ el bs k ∧ el bs k ≤ 255 := by
  unfold el
  rw [List.getD_eq_getElem?_getD]
  cases hz : bs[k]? with
  | none => simp
  | some z => exact h z (List.mem_of_getElem? hz)
/-- The head of a record's bytes: three bytes, the payload's length. -/
def headL (s : SerD) : List Int := [82, 65, 1] ++ putL (payL s.f s.st s.ds).length
def tailL (s : SerD) : List Int := payL s.f s.st s.ds ++ be4 (sumB (payL s.f s.st s.ds))
theorem enc_one (s : SerD) : encL [s] = headL s ++ tailL s := by
  unfold encL headL tailL
  rw [List.flatMap_cons, List.flatMap_nil, List.append_nil]
  show [82, 65, 1] ++ recL s.f s.st s.ds = _
  unfold recL
  simp
theorem head_frst {s : SerD} (h : validD s = true) : 3 + frst ((encL [s]).drop 3) + 1 = (headL s).length := by
  have hp := payL_len s.f s.st s.ds
  have hn1 := (validS_parts h).1.n1
  have hg := (putGo_get 9 (payL s.f s.st s.ds).length (tailL s) (by omega)).1
  have e : (encL [s]).drop 3 = putL (payL s.f s.st s.ds).length ++ tailL s := by
    rw [enc_one]; unfold headL; rw [List.append_assoc]; exact List.drop_left' rfl
  have hg2 : frst (putL (payL s.f s.st s.ds).length ++ tailL s) + 1 = (putL (payL s.f s.st s.ds).length).length := hg
  rw [e]
  unfold headL
  rw [List.length_append]
  simp
  omega
theorem tail_len (s : SerD) : (tailL s).length = (payL s.f s.st s.ds).length + 4 := by unfold tailL; rw [List.length_append]; rfl
theorem hurt_dec {s : SerD} (h : validD s = true) (hr : ∀ z ∈ encL [s], 0 ≤ z ∧ z ≤ 255) (hl : (encL [s]).length ≤ 1048576) {k : Nat} {y : Int} (hk : (headL s).length ≤ k) (hk2 : k < (encL [s]).length) (hy : 0 ≤ y ∧ y ≤ 255) (hne : ¬ y = el (encL [s]) k) :
    decL ((encL [s]).set k y) = ([], 18) := by
  have hp := payL_len s.f s.st s.ds
  have hn1 := (validS_parts h).1.n1
  have sb := sumB_bd (payL s.f s.st s.ds)
  have htl := tail_len s
  have hel : (encL [s]).length = (headL s).length + (tailL s).length := by rw [enc_one, List.length_append]
  obtain ⟨q, rfl⟩ : ∃ q, k = (headL s).length + q := ⟨k - (headL s).length, by omega⟩
  have hset : (encL [s]).set ((headL s).length + q) y = headL s ++ (tailL s).set q y := by
    rw [enc_one, List.set_append_right _ _ (by omega), Nat.add_sub_cancel_left]
  have hneq : ¬ y = el (tailL s) q := by
    intro e
    apply hne
    rw [e, enc_one]
    unfold el
    rw [List.getD_eq_getElem?_getD, List.getD_eq_getElem?_getD, List.getElem?_append_right (by omega), Nat.add_sub_cancel_left]
  have hrt : ∀ z ∈ tailL s, 0 ≤ z ∧ z ≤ 255 := fun z hz => hr z (by rw [enc_one]; exact List.mem_append_right _ hz)
  have hrp : ∀ z ∈ payL s.f s.st s.ds, 0 ≤ z ∧ z ≤ 255 := fun z hz => hrt z (by unfold tailL; exact List.mem_append_left _ hz)
  have hlen : ((encL [s]).set ((headL s).length + q) y).length = (encL [s]).length := List.length_set
  have t3 : (headL s ++ (tailL s).set q y).take 3 = [82, 65, 1] := by unfold headL; rw [List.append_assoc]; exact List.take_left' rfl
  have d3 : (headL s ++ (tailL s).set q y).drop 3 = putL (payL s.f s.st s.ds).length ++ (tailL s).set q y := by unfold headL; rw [List.append_assoc]; exact List.drop_left' rfl
  unfold decL
  rw [if_neg (by rw [hlen]; omega), hlen, hset, if_neg (by rw [t3]; simp), d3]
  obtain ⟨f, hf⟩ : ∃ f, (encL [s]).length = f + 1 := ⟨(encL [s]).length - 1, by omega⟩
  have g := getN_put (n := (payL s.f s.st s.ds).length) (by omega) ((tailL s).set q y)
  have hpl := putL_len (payL s.f s.st s.ds).length
  rw [hf, decGo, if_neg (by rw [List.length_append]; omega), if_neg (by simp), g]
  rw [if_neg (by simp), if_neg (by simp only [List.length_set]; omega), if_pos]
  simp only
  by_cases hq : q < (payL s.f s.st s.ds).length
  · have e : (tailL s).set q y = (payL s.f s.st s.ds).set q y ++ be4 (sumB (payL s.f s.st s.ds)) := by unfold tailL; rw [List.set_append_left _ _ hq]
    have ep : el (tailL s) q = el (payL s.f s.st s.ds) q := by
      unfold tailL el; rw [List.getD_eq_getElem?_getD, List.getD_eq_getElem?_getD, List.getElem?_append_left hq]
    have hll : ((payL s.f s.st s.ds).set q y).length = (payL s.f s.st s.ds).length := List.length_set
    rw [e, List.drop_left' hll, List.take_left' hll, List.take_of_length_le (by show (4 : Nat) ≤ 4; omega), val4_be4 _ sb.1 sb.2]
    intro hh
    exact sumB_hurt hq (el_rng hrp) hy (by rw [← ep]; exact hneq) hh.symm
  · have e : (tailL s).set q y = payL s.f s.st s.ds ++ (be4 (sumB (payL s.f s.st s.ds))).set (q - (payL s.f s.st s.ds).length) y := by unfold tailL; rw [List.set_append_right _ _ (by omega)]
    have ep : el (tailL s) q = el (be4 (sumB (payL s.f s.st s.ds))) (q - (payL s.f s.st s.ds).length) := by
      unfold tailL el; rw [List.getD_eq_getElem?_getD, List.getD_eq_getElem?_getD, List.getElem?_append_right (by omega)]
    rw [e, List.drop_left' rfl, List.take_left' rfl, List.take_of_length_le (by rw [List.length_set]; show (4 : Nat) ≤ 4; omega)]
    intro hh
    refine val4_hurt (l := be4 (sumB (payL s.f s.st s.ds))) rfl (by omega) (by rw [← ep]; exact hneq) (hh.trans ?_)
    rw [val4_be4 _ sb.1 sb.2]
end Go.Proofs.Ytchnfahgmceohaa
