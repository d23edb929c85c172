/- Unpack, where it succeeds. -/
import Derived.Test.YtchnfahgmceohaaUnp2
import Derived.BigQuiet
namespace Go.Proofs.Ytchnfahgmceohaa
open Go.RowKit
set_option linter.unusedVariables false

/-- What Unpack hands back: the integers, how many bytes they took. -/
def RetU (out : List Int) (k : Int) (w : World) (e : Ending) (w' : World) : Prop :=
  ∃ A n c, e = .returned (.tuple #[.slice A n c, .int .i64 k, .int .i64 0]) ∧ Ints w' A n c out ∧ Below w.heap.size w w'

set_option maxRecDepth 100000 in
set_option maxHeartbeats 2000000 in
theorem Unpack_calls {A : Option Addr} {n c : Nat} {bs : List Int} (w : World) (h : Byts w A n c bs) (hA : ∀ ad, A = some ad → ad.block < w.heap.size) (m : Nat) (hm : m ≤ 10000) (out rest : List Int)
    (hR : unpGo m m 0 false bs [] = (0, out, rest)) (hl : rest.length ≤ n) :
    Calls Try.prog 22 #[.slice A n c, .int .i64 m] w (RetU out ((n : Int) - rest.length) w) := by
  have B0 : Below w.heap.size w ((w.alloc (.cells #[.slice none 0 0] 34)).alloc (.cells #[.slice A n c] 73)) := ((Below.refl _ _).alloc (Nat.le_refl _) _).alloc (by simp) _
  have hrd : Rd ((w.alloc (.cells #[.slice none 0 0] 34)).alloc (.cells #[.slice A n c] 73)) (w.heap.size + 1) w.heap.size bs := by
    have := Cel.made (w.alloc (.cells #[.slice none 0 0] 34)) (.slice A n c) 73
    rw [World.size_alloc] at this
    exact ⟨A, n, c, this, h.below B0, hA⟩
  have hj : JU w.heap.size (w.heap.size + 1) ((w.alloc (.cells #[.slice none 0 0] 34)).alloc (.cells #[.slice A n c] 73)) [] :=
    ⟨.slice none 0 0, (Cel.made w (.slice none 0 0) 34).alloc _, Own.nil _ _⟩
  have pc := packed_calls 51 (w.heap.size + 1) w.heap.size w.heap.size (w.heap.size + 1) (JU w.heap.size (w.heap.size + 1)) m bs _ hrd hj hm (by omega) (Nat.le_refl _) (by omega) (Nat.le_refl _) (by omega) (by simp) (.inl rfl)
    (fun W W' o hJ hW => hJ.num (by omega) hW) (fun W o v t hJ hp hv ht hl => unpack1_calls _ _ o v t W hJ (by omega) hp hv ht hl)
  rw [hR] at pc
  have PC := Lib.hid pc
  have HB0 := Lib.hid B0
  have hcap := h.cap
  have hmax := h.max
  have hfew := h.few
  clear pc hj hrd B0 hR
  go_enter Try.func22, Try.ntmps22
  go_wp2_with fail
  refine (PC.out).mono ?_
  rintro e w1 ⟨rfl, hr, hj, hb⟩
  obtain ⟨A1, n1, c1, ⟨r1, r2, r3⟩, hby, -⟩ := hr.r
  obtain ⟨v, ⟨c0, c2, c3⟩, ho⟩ := hj.o
  obtain ⟨A2, c4, rfl⟩ := ho.slice
  have hn1 := hby.len
  simp only at hn1
  subst hn1
  obtain ⟨A3, n3, c5, e3, hi3, -⟩ := ho.ints
  have HI := Lib.hid hi3
  have HE := Lib.hid e3
  have HBB := Lib.hid (HB0.out.trans hb)
  clear hr hj ho hb hby hi3 e3
  dsimp only at r1 c0 HE
  go_wp2
  go_quiet (fail)
  go_wp2
  go_returns
  have he := HE.out
  injection he with h1 h2 h3
  subst h1 h2 h3
  have hb := HBB.out
  exact ⟨_, _, _, rfl, HI.out.drewN _, ⟨hb.os, hb.tape, hb.output, hb.size, hb.block⟩⟩
end Go.Proofs.Ytchnfahgmceohaa
