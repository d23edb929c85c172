/- The law StormNests returns true. -/
import Derived.Test.YtfhikdgdckfalaaMB18
import Derived.Test.YtfhikdgdckfalaaMB13
import Derived.Test.YtfhikdgdckfalaaNestR
namespace Go.Proofs.Ytfhikdgdckfalaa
open Go.RowKit
set_option linter.unusedVariables false

set_option maxHeartbeats 4000000 in
set_option maxRecDepth 100000 in
theorem Nests_calls {A : Option Addr} {n c : Nat} {ds : List Int} {f st : Int} (w : World) (h : Ints w A n c ds) (bf : -9223372036854775808 ≤ f ∧ f ≤ 9223372036854775807) (bs : -9223372036854775808 ≤ st ∧ st ≤ 9223372036854775807) :
    Calls Try.prog 6 #[serA f st A n c] w fun e w' => e = .returned (.bool true) ∧ Below w.heap.size w w' := by
  obtain ⟨Wa, hWa⟩ : ∃ Wa, w.alloc (serO f st A n c) = Wa := ⟨_, rfl⟩
  have ha : Below w.heap.size w Wa := by rw [← hWa]; exact (Below.refl _ _).alloc (Nat.le_refl _) _
  have x0 : KSer Wa w.heap.size ⟨f, st, ds⟩ A n c := by rw [← hWa]; exact ⟨h.alloc _, SBox.made _ _ _ _ _ _⟩
  have B0 := Lib.hid ha
  have X0 := Lib.hid x0
  have hcap := h.cap
  have hmax := h.max
  have nc := fun W (I : Ints W A n c ds) => Nested_calls f st W I
  have rv := fun W (I : Ints W A n c ds) => rValid_calls f st W I
  have hlen := h.len
  clear ha x0 bf bs
  by_cases hn : 40 < (n : Int)
  · clear nc rv h
    go_enter Try.func6, Try.ntmps6
    go_wp2_with fail
    refine (awake_calls _).mono ?_
    rintro e w1 ⟨rfl, b1⟩
    have B1 := Lib.hid (below_then B0.out b1 B0.out.size)
    have X1 := Lib.hid (X0.out.below b1)
    obtain ⟨a0, a1, a2⟩ := X1.out.cells
    dsimp only at a0 a1 a2
    clear b1 X0 B0 hWa
    go_wp2
    go_ret
    exact ⟨rfl, B1.out⟩
  · cases hv : validS f st ds
    · simp only [hv] at nc rv
      rw [if_neg (by simp)] at nc
      have NC := Lib.hid nc
      have RV := Lib.hid rv
      clear nc rv hv h
      go_enter Try.func6, Try.ntmps6
      go_wp2_with fail
      refine (awake_calls _).mono ?_
      rintro e w1 ⟨rfl, b1⟩
      have B1 := Lib.hid (below_then B0.out b1 B0.out.size)
      have X1 := Lib.hid (X0.out.below b1)
      obtain ⟨a0, a1, a2⟩ := X1.out.cells
      dsimp only at a0 a1 a2
      clear b1 X0 B0 hWa
      go_wp2_with fail
      refine (NC.out _ X1.out.i).mono ?_
      rintro e w2 ⟨rfl, b2⟩
      have B2 := Lib.hid (below_then B1.out b2 B1.out.size)
      have X2 := Lib.hid (X1.out.below b2)
      clear b2 a0 a1 a2 X1 B1
      obtain ⟨a0, a1, a2⟩ := X2.out.cells
      dsimp only at a0 a1 a2
      go_wp2_with fail
      refine (RV.out _ X2.out.i).mono ?_
      rintro e w3 ⟨rfl, b3⟩
      have B3 := Lib.hid (below_then B2.out b3 B2.out.size)
      clear b3
      go_wp2
      go_ret
      exact ⟨ret_b (by simp), B3.out⟩
    · obtain ⟨fo, hdz⟩ := validS_parts hv
      have nr := fun W (I : Ints W A n c ds) => Nested_ref W I hdz (by omega)
      simp only [hv] at nc rv
      rw [if_pos (by simp)] at nc
      generalize nestV ds = V at *
      have NC := Lib.hid nc
      have RV := Lib.hid rv
      have NR := Lib.hid nr
      have vv : (V == V) = true := by simp
      clear nc rv nr hv fo hdz h
      go_enter Try.func6, Try.ntmps6
      go_wp2_with fail
      refine (awake_calls _).mono ?_
      rintro e w1 ⟨rfl, b1⟩
      have B1 := Lib.hid (below_then B0.out b1 B0.out.size)
      have X1 := Lib.hid (X0.out.below b1)
      obtain ⟨a0, a1, a2⟩ := X1.out.cells
      dsimp only at a0 a1 a2
      clear b1 X0 B0 hWa
      go_wp2_with fail
      refine (NC.out _ X1.out.i).mono ?_
      rintro e w2 ⟨rfl, b2⟩
      have B2 := Lib.hid (below_then B1.out b2 B1.out.size)
      have X2 := Lib.hid (X1.out.below b2)
      clear b2 a0 a1 a2 X1 B1
      obtain ⟨a0, a1, a2⟩ := X2.out.cells
      dsimp only at a0 a1 a2
      go_wp2_with fail
      refine (RV.out _ X2.out.i).mono ?_
      rintro e w3 ⟨rfl, b3⟩
      have B3 := Lib.hid (below_then B2.out b3 B2.out.size)
      have X3 := Lib.hid (X2.out.below b3)
      clear b3 a0 a1 a2 X2 B2
      obtain ⟨a0, a1, a2⟩ := X3.out.cells
      dsimp only at a0 a1 a2
      go_wp2_with fail
      refine (NR.out _ X3.out.i).mono ?_
      rintro e w4 ⟨rfl, b4⟩
      have B4 := Lib.hid (below_then B3.out b4 B3.out.size)
      clear b4
      go_wp2
      go_ret
      exact ⟨ret_b (by simp), B4.out⟩
end Go.Proofs.Ytfhikdgdckfalaa
