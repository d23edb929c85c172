/-
  No cell of these rows narrows 'for every input' (looked for: loops, veiled, ifaces, maps, wideKeys, modest, calm, conditions, laid).
  DERIVED. THE GIVEN ROWS OF THIS SEAT. 7 by the template 'for every input the law returns true; each argument reads behind the call as it read before'; 0 by the template 'total and deterministic' (their statements: YtfhikdgdckfalaaTotals.lean).
  GIVEN WITH THE SEED: the statements are not yours to turn. If you find one false, say at which input.
  Laid BY PROGRAM, IN A SANDBOX (cutbox-rows.mjs): the forced cells as the released guide's own fill.sh prints them over the translation bef4c6623e24f0bc… (all of the seat's roots in one cut). By AI agents, Wed Nov 11 2026. No macro, syntax, notation, axiom, sorry.
-/
import Derived.Test.YtfhikdgdckfalaaChecked
import GoSem.Claim
import GoSem.ClaimJoined
import GoSem.ClaimMapViews
import Derived.JoinedTies
import Derived.KernelRfl
namespace Go.Proofs.Ytfhikdgdckfalaa
/- THE CELL 'sum', in the pinned program and in every row, IS THE sha256 OF THE DUMP (.gsa) THAT YtfhikdgdckfalaaProg.lean LOADS. Nothing in Lean hashes anything: it is a label: what it is worth is what the hold of that sum in a sandbox is worth. -/
noncomputable def Try.pinned : Pinned := { name := "ytfhikdgdckfalaa", sum := "bef4c6623e24f0bc796c104d4567431ee9e752c8386c310a98b3d65b24d42d3c", checked := Try.checked }
namespace Rows
def none {H : Type} : Left H := { results := [], args := [] }

/-- 'sewershedlaw20.StormMakes': WHATEVER THE INPUT: true; the input reads as it did. -/
def stormMakesSpec : ChangeSpec := { name := "stormMakes", fn := fun _ => fun
  | [d1, d2, d3, d4, d5] => { results := [.lit (.bool true)], args := [d1, d2, d3, d4, d5] }
  | _ => none }
def stormMakesRow : OpenClaim := { program := "ytfhikdgdckfalaa", sum := "bef4c6623e24f0bc796c104d4567431ee9e752c8386c310a98b3d65b24d42d3c", func := "sewershed/sewershedlaw20.StormMakes", spec := "stormMakes", inPlace := ["math/bits.Sub64"], unfollowed := true, recurses := true, named := ["math/bits.divideError", "math/bits.overflowError"], apart := false }
def StormMakesSaid : Prop := stormMakesRow.holds Try.pinned (OpenSpec.ofChange stormMakesSpec)

/-- ITS FALSE NEIGHBOUR: 'it returns false'. Refute it at one input. -/
def stormMakesWrong : ChangeSpec := { name := "stormMakes", fn := fun _ => fun
  | [d1, d2, d3, d4, d5] => { results := [.lit (.bool false)], args := [d1, d2, d3, d4, d5] }
  | _ => none }
def StormMakesWrongFalsely : Prop := stormMakesRow.holds Try.pinned (OpenSpec.ofChange stormMakesWrong)

/-- 'sewershedlaw20.StormBlocks': WHATEVER THE INPUT: true; the input reads as it did. -/
def stormBlocksSpec : ChangeSpec := { name := "stormBlocks", fn := fun _ => fun
  | [d1, d2, d3, d4, d5, d6] => { results := [.lit (.bool true)], args := [d1, d2, d3, d4, d5, d6] }
  | _ => none }
def stormBlocksRow : OpenClaim := { program := "ytfhikdgdckfalaa", sum := "bef4c6623e24f0bc796c104d4567431ee9e752c8386c310a98b3d65b24d42d3c", func := "sewershed/sewershedlaw20.StormBlocks", spec := "stormBlocks", inPlace := ["math/bits.Sub64"], unfollowed := true, recurses := true, named := ["math/bits.divideError", "math/bits.overflowError"], apart := false }
def StormBlocksSaid : Prop := stormBlocksRow.holds Try.pinned (OpenSpec.ofChange stormBlocksSpec)

/-- ITS FALSE NEIGHBOUR: 'it returns false'. Refute it at one input. -/
def stormBlocksWrong : ChangeSpec := { name := "stormBlocks", fn := fun _ => fun
  | [d1, d2, d3, d4, d5, d6] => { results := [.lit (.bool false)], args := [d1, d2, d3, d4, d5, d6] }
  | _ => none }
def StormBlocksWrongFalsely : Prop := stormBlocksRow.holds Try.pinned (OpenSpec.ofChange stormBlocksWrong)

/-- 'sewershedlaw20.StormTotals': WHATEVER THE INPUT: true; the input reads as it did. -/
def stormTotalsSpec : ChangeSpec := { name := "stormTotals", fn := fun _ => fun
  | [d1, d2, d3, d4, d5] => { results := [.lit (.bool true)], args := [d1, d2, d3, d4, d5] }
  | _ => none }
def stormTotalsRow : OpenClaim := { program := "ytfhikdgdckfalaa", sum := "bef4c6623e24f0bc796c104d4567431ee9e752c8386c310a98b3d65b24d42d3c", func := "sewershed/sewershedlaw20.StormTotals", spec := "stormTotals", inPlace := ["math/bits.Sub64"], unfollowed := true, recurses := true, named := ["math/bits.divideError", "math/bits.overflowError"], apart := false }
def StormTotalsSaid : Prop := stormTotalsRow.holds Try.pinned (OpenSpec.ofChange stormTotalsSpec)

/-- ITS FALSE NEIGHBOUR: 'it returns false'. Refute it at one input. -/
def stormTotalsWrong : ChangeSpec := { name := "stormTotals", fn := fun _ => fun
  | [d1, d2, d3, d4, d5] => { results := [.lit (.bool false)], args := [d1, d2, d3, d4, d5] }
  | _ => none }
def StormTotalsWrongFalsely : Prop := stormTotalsRow.holds Try.pinned (OpenSpec.ofChange stormTotalsWrong)

/-- 'sewershedlaw20.StormNests': WHATEVER THE INPUT: true; the input reads as it did. -/
def stormNestsSpec : ChangeSpec := { name := "stormNests", fn := fun _ => fun
  | [d] => { results := [.lit (.bool true)], args := [d] }
  | _ => none }
def stormNestsRow : OpenClaim := { program := "ytfhikdgdckfalaa", sum := "bef4c6623e24f0bc796c104d4567431ee9e752c8386c310a98b3d65b24d42d3c", func := "sewershed/sewershedlaw20.StormNests", spec := "stormNests", inPlace := ["math/bits.Sub64"], unfollowed := true, recurses := true, named := ["math/bits.divideError", "math/bits.overflowError"], apart := false }
def StormNestsSaid : Prop := stormNestsRow.holds Try.pinned (OpenSpec.ofChange stormNestsSpec)

/-- ITS FALSE NEIGHBOUR: 'it returns false'. Refute it at one input. -/
def stormNestsWrong : ChangeSpec := { name := "stormNests", fn := fun _ => fun
  | [d] => { results := [.lit (.bool false)], args := [d] }
  | _ => none }
def StormNestsWrongFalsely : Prop := stormNestsRow.holds Try.pinned (OpenSpec.ofChange stormNestsWrong)

/-- 'sewershedlaw20.StormTable': WHATEVER THE INPUT: true; the input reads as it did. -/
def stormTableSpec : ChangeSpec := { name := "stormTable", fn := fun _ => fun
  | [d1, d2, d3, d4, d5, d6] => { results := [.lit (.bool true)], args := [d1, d2, d3, d4, d5, d6] }
  | _ => none }
def stormTableRow : OpenClaim := { program := "ytfhikdgdckfalaa", sum := "bef4c6623e24f0bc796c104d4567431ee9e752c8386c310a98b3d65b24d42d3c", func := "sewershed/sewershedlaw20.StormTable", spec := "stormTable", inPlace := ["math/bits.Sub64"], unfollowed := true, recurses := true, named := ["math/bits.divideError", "math/bits.overflowError"], apart := false }
def StormTableSaid : Prop := stormTableRow.holds Try.pinned (OpenSpec.ofChange stormTableSpec)

/-- ITS FALSE NEIGHBOUR: 'it returns false'. Refute it at one input. -/
def stormTableWrong : ChangeSpec := { name := "stormTable", fn := fun _ => fun
  | [d1, d2, d3, d4, d5, d6] => { results := [.lit (.bool false)], args := [d1, d2, d3, d4, d5, d6] }
  | _ => none }
def StormTableWrongFalsely : Prop := stormTableRow.holds Try.pinned (OpenSpec.ofChange stormTableWrong)

/-- 'sewershedlaw20.StormChanges': WHATEVER THE INPUT: true; the input reads as it did. -/
def stormChangesSpec : ChangeSpec := { name := "stormChanges", fn := fun _ => fun
  | [d1, d2, d3, d4, d5] => { results := [.lit (.bool true)], args := [d1, d2, d3, d4, d5] }
  | _ => none }
def stormChangesRow : OpenClaim := { program := "ytfhikdgdckfalaa", sum := "bef4c6623e24f0bc796c104d4567431ee9e752c8386c310a98b3d65b24d42d3c", func := "sewershed/sewershedlaw20.StormChanges", spec := "stormChanges", inPlace := ["math/bits.Sub64"], unfollowed := true, recurses := true, named := ["math/bits.divideError", "math/bits.overflowError"], apart := false }
def StormChangesSaid : Prop := stormChangesRow.holds Try.pinned (OpenSpec.ofChange stormChangesSpec)

/-- ITS FALSE NEIGHBOUR: 'it returns false'. Refute it at one input. -/
def stormChangesWrong : ChangeSpec := { name := "stormChanges", fn := fun _ => fun
  | [d1, d2, d3, d4, d5] => { results := [.lit (.bool false)], args := [d1, d2, d3, d4, d5] }
  | _ => none }
def StormChangesWrongFalsely : Prop := stormChangesRow.holds Try.pinned (OpenSpec.ofChange stormChangesWrong)

/-- 'sewershedlaw20.StormScaled': WHATEVER THE INPUT: true; the input reads as it did. -/
def stormScaledSpec : ChangeSpec := { name := "stormScaled", fn := fun _ => fun
  | [d1, d2, d3, d4, d5] => { results := [.lit (.bool true)], args := [d1, d2, d3, d4, d5] }
  | _ => none }
def stormScaledRow : OpenClaim := { program := "ytfhikdgdckfalaa", sum := "bef4c6623e24f0bc796c104d4567431ee9e752c8386c310a98b3d65b24d42d3c", func := "sewershed/sewershedlaw20.StormScaled", spec := "stormScaled", inPlace := ["math/bits.Sub64"], unfollowed := true, recurses := true, named := ["math/bits.divideError", "math/bits.overflowError"], apart := false }
def StormScaledSaid : Prop := stormScaledRow.holds Try.pinned (OpenSpec.ofChange stormScaledSpec)

/-- ITS FALSE NEIGHBOUR: 'it returns false'. Refute it at one input. -/
def stormScaledWrong : ChangeSpec := { name := "stormScaled", fn := fun _ => fun
  | [d1, d2, d3, d4, d5] => { results := [.lit (.bool false)], args := [d1, d2, d3, d4, d5] }
  | _ => none }
def StormScaledWrongFalsely : Prop := stormScaledRow.holds Try.pinned (OpenSpec.ofChange stormScaledWrong)

/- THE SECOND FORM. 'bulk': how many values and letters a reading holds, each counted each time it is reached (what is shared counts as often as it is met; a slice's spare places count too). A statement '..UptoSaid' is the law's where the arguments, and the package variables that the reading takes, are together of bulk at most 1048576: NARROWER than '..Said'. Prove '..Said' where nothing that the law and all that it calls make is longer than what came in: it says more and counts as full. Else prove '..UptoSaid'. A law counts once. -/
mutual
def uptoBulk {H : Type} : DataW H → Nat
  | .lit (.string bytes) => bytes.length + 1
  | .lit _ => 1
  | .nil => 1
  | .ptr d => uptoBulk d + 1
  | .slice elems spare => uptoBulkAll elems + uptoBulkAll spare + 1
  | .agg parts => uptoBulkAll parts + 1
  | .iface _ d => uptoBulk d + 1
  | .map entries => uptoBulkEntries entries + 1
  | .held _ => 1
def uptoBulkAll {H : Type} : List (DataW H) → Nat
  | [] => 0
  | d :: r => uptoBulk d + uptoBulkAll r
def uptoBulkEntries {H : Type} : List (Lit × DataW H) → Nat
  | [] => 0
  | x :: r => uptoBulkEntry x + uptoBulkEntries r
def uptoBulkEntry {H : Type} : Lit × DataW H → Nat
  | (.string bytes, d) => bytes.length + uptoBulk d + 1
  | (_, d) => uptoBulk d + 1
 end
def uptoSmall : (H : Type) → List (DataW H) → Bool := fun _ ds => decide (uptoBulkAll ds ≤ 1048576)
def OpenSpec.upto (s : _root_.Go.ChangeSpec) : _root_.Go.OpenSpec := { _root_.Go.OpenSpec.ofChange s with cond := some uptoSmall }

/-- 'sewershedlaw20.StormMakes', WHERE WHAT IT READS IS OF BULK AT MOST 1048576: true; the input reads as it did. -/
def stormMakesUptoRow : OpenClaim := { program := "ytfhikdgdckfalaa", sum := "bef4c6623e24f0bc796c104d4567431ee9e752c8386c310a98b3d65b24d42d3c", func := "sewershed/sewershedlaw20.StormMakes", spec := "stormMakes", inPlace := ["math/bits.Sub64"], unfollowed := true, recurses := true, named := ["math/bits.divideError", "math/bits.overflowError"], apart := false, narrowed := true }
def StormMakesUptoSaid : Prop := stormMakesUptoRow.holds Try.pinned (OpenSpec.upto stormMakesSpec)

/-- 'sewershedlaw20.StormBlocks', WHERE WHAT IT READS IS OF BULK AT MOST 1048576: true; the input reads as it did. -/
def stormBlocksUptoRow : OpenClaim := { program := "ytfhikdgdckfalaa", sum := "bef4c6623e24f0bc796c104d4567431ee9e752c8386c310a98b3d65b24d42d3c", func := "sewershed/sewershedlaw20.StormBlocks", spec := "stormBlocks", inPlace := ["math/bits.Sub64"], unfollowed := true, recurses := true, named := ["math/bits.divideError", "math/bits.overflowError"], apart := false, narrowed := true }
def StormBlocksUptoSaid : Prop := stormBlocksUptoRow.holds Try.pinned (OpenSpec.upto stormBlocksSpec)

/-- 'sewershedlaw20.StormTotals', WHERE WHAT IT READS IS OF BULK AT MOST 1048576: true; the input reads as it did. -/
def stormTotalsUptoRow : OpenClaim := { program := "ytfhikdgdckfalaa", sum := "bef4c6623e24f0bc796c104d4567431ee9e752c8386c310a98b3d65b24d42d3c", func := "sewershed/sewershedlaw20.StormTotals", spec := "stormTotals", inPlace := ["math/bits.Sub64"], unfollowed := true, recurses := true, named := ["math/bits.divideError", "math/bits.overflowError"], apart := false, narrowed := true }
def StormTotalsUptoSaid : Prop := stormTotalsUptoRow.holds Try.pinned (OpenSpec.upto stormTotalsSpec)

/-- 'sewershedlaw20.StormNests', WHERE WHAT IT READS IS OF BULK AT MOST 1048576: true; the input reads as it did. -/
def stormNestsUptoRow : OpenClaim := { program := "ytfhikdgdckfalaa", sum := "bef4c6623e24f0bc796c104d4567431ee9e752c8386c310a98b3d65b24d42d3c", func := "sewershed/sewershedlaw20.StormNests", spec := "stormNests", inPlace := ["math/bits.Sub64"], unfollowed := true, recurses := true, named := ["math/bits.divideError", "math/bits.overflowError"], apart := false, narrowed := true }
def StormNestsUptoSaid : Prop := stormNestsUptoRow.holds Try.pinned (OpenSpec.upto stormNestsSpec)

/-- 'sewershedlaw20.StormTable', WHERE WHAT IT READS IS OF BULK AT MOST 1048576: true; the input reads as it did. -/
def stormTableUptoRow : OpenClaim := { program := "ytfhikdgdckfalaa", sum := "bef4c6623e24f0bc796c104d4567431ee9e752c8386c310a98b3d65b24d42d3c", func := "sewershed/sewershedlaw20.StormTable", spec := "stormTable", inPlace := ["math/bits.Sub64"], unfollowed := true, recurses := true, named := ["math/bits.divideError", "math/bits.overflowError"], apart := false, narrowed := true }
def StormTableUptoSaid : Prop := stormTableUptoRow.holds Try.pinned (OpenSpec.upto stormTableSpec)

/-- 'sewershedlaw20.StormChanges', WHERE WHAT IT READS IS OF BULK AT MOST 1048576: true; the input reads as it did. -/
def stormChangesUptoRow : OpenClaim := { program := "ytfhikdgdckfalaa", sum := "bef4c6623e24f0bc796c104d4567431ee9e752c8386c310a98b3d65b24d42d3c", func := "sewershed/sewershedlaw20.StormChanges", spec := "stormChanges", inPlace := ["math/bits.Sub64"], unfollowed := true, recurses := true, named := ["math/bits.divideError", "math/bits.overflowError"], apart := false, narrowed := true }
def StormChangesUptoSaid : Prop := stormChangesUptoRow.holds Try.pinned (OpenSpec.upto stormChangesSpec)

/-- 'sewershedlaw20.StormScaled', WHERE WHAT IT READS IS OF BULK AT MOST 1048576: true; the input reads as it did. -/
def stormScaledUptoRow : OpenClaim := { program := "ytfhikdgdckfalaa", sum := "bef4c6623e24f0bc796c104d4567431ee9e752c8386c310a98b3d65b24d42d3c", func := "sewershed/sewershedlaw20.StormScaled", spec := "stormScaled", inPlace := ["math/bits.Sub64"], unfollowed := true, recurses := true, named := ["math/bits.divideError", "math/bits.overflowError"], apart := false, narrowed := true }
def StormScaledUptoSaid : Prop := stormScaledUptoRow.holds Try.pinned (OpenSpec.upto stormScaledSpec)

end Rows
end Go.Proofs.Ytfhikdgdckfalaa
