/-
  No cell of these rows narrows 'for every input' (looked for: loops, veiled, ifaces, maps, wideKeys, modest, calm, conditions, laid).
  DERIVED. THE GIVEN ROWS OF THIS SEAT. 8 by the template 'for every input the law returns true; each argument reads behind the call as it read before'; 0 by the template 'total and deterministic' (their statements: YtihaabdgligbbaaTotals.lean).
  GIVEN WITH THE SEED: the statements are not yours to turn. If you find one false, say at which input.
  Laid BY PROGRAM, IN A SANDBOX (cutbox-rows.mjs): the forced cells as the released guide's own fill.sh prints them over the translation d6e1c68c04121454… (all of the seat's roots in one cut). By AI agents, Wed Nov 11 2026. No macro, syntax, notation, axiom, sorry.
-/
import Derived.Test.YtihaabdgligbbaaChecked
import GoSem.Claim
import GoSem.ClaimJoined
import GoSem.ClaimMapViews
import Derived.JoinedTies
import Derived.KernelRfl
namespace Go.Proofs.Ytihaabdgligbbaa
/- THE CELL 'sum', in the pinned program and in every row, IS THE sha256 OF THE DUMP (.gsa) THAT YtihaabdgligbbaaProg.lean LOADS. Nothing in Lean hashes anything: it is a label: what it is worth is what the hold of that sum in a sandbox is worth. -/
noncomputable def Try.pinned : Pinned := { name := "ytihaabdgligbbaa", sum := "d6e1c68c041214549adb0fc4c14bd94957cad5a91349647a893060afc7b04ca9", checked := Try.checked }
namespace Rows
def none {H : Type} : Left H := { results := [], args := [] }

/-- 'sewershedlaw50.ConditionExpects': WHATEVER THE INPUT: true; the input reads as it did. -/
def conditionExpectsSpec : ChangeSpec := { name := "conditionExpects", fn := fun _ => fun
  | [d1, d2, d3, d4, d5] => { results := [.lit (.bool true)], args := [d1, d2, d3, d4, d5] }
  | _ => none }
def conditionExpectsRow : OpenClaim := { program := "ytihaabdgligbbaa", sum := "d6e1c68c041214549adb0fc4c14bd94957cad5a91349647a893060afc7b04ca9", func := "sewershed/sewershedlaw50.ConditionExpects", spec := "conditionExpects", unfollowed := true, recurses := true, named := ["math/bits.divideError", "math/bits.overflowError"], apart := false }
def ConditionExpectsSaid : Prop := conditionExpectsRow.holds Try.pinned (OpenSpec.ofChange conditionExpectsSpec)

/-- ITS FALSE NEIGHBOUR: 'it returns false'. Refute it at one input. -/
def conditionExpectsWrong : ChangeSpec := { name := "conditionExpects", fn := fun _ => fun
  | [d1, d2, d3, d4, d5] => { results := [.lit (.bool false)], args := [d1, d2, d3, d4, d5] }
  | _ => none }
def ConditionExpectsWrongFalsely : Prop := conditionExpectsRow.holds Try.pinned (OpenSpec.ofChange conditionExpectsWrong)

/-- 'sewershedlaw50.ConditionDue': WHATEVER THE INPUT: true; the input reads as it did. -/
def conditionDueSpec : ChangeSpec := { name := "conditionDue", fn := fun _ => fun
  | [d1, d2, d3, d4, d5] => { results := [.lit (.bool true)], args := [d1, d2, d3, d4, d5] }
  | _ => none }
def conditionDueRow : OpenClaim := { program := "ytihaabdgligbbaa", sum := "d6e1c68c041214549adb0fc4c14bd94957cad5a91349647a893060afc7b04ca9", func := "sewershed/sewershedlaw50.ConditionDue", spec := "conditionDue", unfollowed := true, recurses := true, named := ["math/bits.divideError", "math/bits.overflowError"], apart := false }
def ConditionDueSaid : Prop := conditionDueRow.holds Try.pinned (OpenSpec.ofChange conditionDueSpec)

/-- ITS FALSE NEIGHBOUR: 'it returns false'. Refute it at one input. -/
def conditionDueWrong : ChangeSpec := { name := "conditionDue", fn := fun _ => fun
  | [d1, d2, d3, d4, d5] => { results := [.lit (.bool false)], args := [d1, d2, d3, d4, d5] }
  | _ => none }
def ConditionDueWrongFalsely : Prop := conditionDueRow.holds Try.pinned (OpenSpec.ofChange conditionDueWrong)

/-- 'sewershedlaw50.ConditionYears': WHATEVER THE INPUT: true; the input reads as it did. -/
def conditionYearsSpec : ChangeSpec := { name := "conditionYears", fn := fun _ => fun
  | [d1, d2, d3] => { results := [.lit (.bool true)], args := [d1, d2, d3] }
  | _ => none }
def conditionYearsRow : OpenClaim := { program := "ytihaabdgligbbaa", sum := "d6e1c68c041214549adb0fc4c14bd94957cad5a91349647a893060afc7b04ca9", func := "sewershed/sewershedlaw50.ConditionYears", spec := "conditionYears", unfollowed := true, recurses := true, named := ["math/bits.divideError", "math/bits.overflowError"], apart := false }
def ConditionYearsSaid : Prop := conditionYearsRow.holds Try.pinned (OpenSpec.ofChange conditionYearsSpec)

/-- ITS FALSE NEIGHBOUR: 'it returns false'. Refute it at one input. -/
def conditionYearsWrong : ChangeSpec := { name := "conditionYears", fn := fun _ => fun
  | [d1, d2, d3] => { results := [.lit (.bool false)], args := [d1, d2, d3] }
  | _ => none }
def ConditionYearsWrongFalsely : Prop := conditionYearsRow.holds Try.pinned (OpenSpec.ofChange conditionYearsWrong)

/-- 'sewershedlaw50.ConditionTables': WHATEVER THE INPUT: true; the input reads as it did. -/
def conditionTablesSpec : ChangeSpec := { name := "conditionTables", fn := fun _ => fun
  | [d] => { results := [.lit (.bool true)], args := [d] }
  | _ => none }
def conditionTablesRow : OpenClaim := { program := "ytihaabdgligbbaa", sum := "d6e1c68c041214549adb0fc4c14bd94957cad5a91349647a893060afc7b04ca9", func := "sewershed/sewershedlaw50.ConditionTables", spec := "conditionTables", unfollowed := true, recurses := true, named := ["math/bits.divideError", "math/bits.overflowError"], apart := false }
def ConditionTablesSaid : Prop := conditionTablesRow.holds Try.pinned (OpenSpec.ofChange conditionTablesSpec)

/-- ITS FALSE NEIGHBOUR: 'it returns false'. Refute it at one input. -/
def conditionTablesWrong : ChangeSpec := { name := "conditionTables", fn := fun _ => fun
  | [d] => { results := [.lit (.bool false)], args := [d] }
  | _ => none }
def ConditionTablesWrongFalsely : Prop := conditionTablesRow.holds Try.pinned (OpenSpec.ofChange conditionTablesWrong)

/-- 'sewershedlaw50.ConditionCompares': WHATEVER THE INPUT: true; the input reads as it did. -/
def conditionComparesSpec : ChangeSpec := { name := "conditionCompares", fn := fun _ => fun
  | [d1, d2, d3, d4, d5] => { results := [.lit (.bool true)], args := [d1, d2, d3, d4, d5] }
  | _ => none }
def conditionComparesRow : OpenClaim := { program := "ytihaabdgligbbaa", sum := "d6e1c68c041214549adb0fc4c14bd94957cad5a91349647a893060afc7b04ca9", func := "sewershed/sewershedlaw50.ConditionCompares", spec := "conditionCompares", unfollowed := true, recurses := true, named := ["math/bits.divideError", "math/bits.overflowError"], apart := false }
def ConditionComparesSaid : Prop := conditionComparesRow.holds Try.pinned (OpenSpec.ofChange conditionComparesSpec)

/-- ITS FALSE NEIGHBOUR: 'it returns false'. Refute it at one input. -/
def conditionComparesWrong : ChangeSpec := { name := "conditionCompares", fn := fun _ => fun
  | [d1, d2, d3, d4, d5] => { results := [.lit (.bool false)], args := [d1, d2, d3, d4, d5] }
  | _ => none }
def ConditionComparesWrongFalsely : Prop := conditionComparesRow.holds Try.pinned (OpenSpec.ofChange conditionComparesWrong)

/-- 'sewershedlaw50.ConditionRepairs': WHATEVER THE INPUT: true; the input reads as it did. -/
def conditionRepairsSpec : ChangeSpec := { name := "conditionRepairs", fn := fun _ => fun
  | [d1, d2, d3, d4, d5, d6, d7] => { results := [.lit (.bool true)], args := [d1, d2, d3, d4, d5, d6, d7] }
  | _ => none }
def conditionRepairsRow : OpenClaim := { program := "ytihaabdgligbbaa", sum := "d6e1c68c041214549adb0fc4c14bd94957cad5a91349647a893060afc7b04ca9", func := "sewershed/sewershedlaw50.ConditionRepairs", spec := "conditionRepairs", unfollowed := true, recurses := true, named := ["math/bits.divideError", "math/bits.overflowError"], apart := false }
def ConditionRepairsSaid : Prop := conditionRepairsRow.holds Try.pinned (OpenSpec.ofChange conditionRepairsSpec)

/-- ITS FALSE NEIGHBOUR: 'it returns false'. Refute it at one input. -/
def conditionRepairsWrong : ChangeSpec := { name := "conditionRepairs", fn := fun _ => fun
  | [d1, d2, d3, d4, d5, d6, d7] => { results := [.lit (.bool false)], args := [d1, d2, d3, d4, d5, d6, d7] }
  | _ => none }
def ConditionRepairsWrongFalsely : Prop := conditionRepairsRow.holds Try.pinned (OpenSpec.ofChange conditionRepairsWrong)

/-- 'sewershedlaw50.ConditionKeeps': WHATEVER THE INPUT: true; the input reads as it did. -/
def conditionKeepsSpec : ChangeSpec := { name := "conditionKeeps", fn := fun _ => fun
  | [d1, d2, d3, d4] => { results := [.lit (.bool true)], args := [d1, d2, d3, d4] }
  | _ => none }
def conditionKeepsRow : OpenClaim := { program := "ytihaabdgligbbaa", sum := "d6e1c68c041214549adb0fc4c14bd94957cad5a91349647a893060afc7b04ca9", func := "sewershed/sewershedlaw50.ConditionKeeps", spec := "conditionKeeps", unfollowed := true, recurses := true, named := ["math/bits.divideError", "math/bits.overflowError"], apart := false }
def ConditionKeepsSaid : Prop := conditionKeepsRow.holds Try.pinned (OpenSpec.ofChange conditionKeepsSpec)

/-- ITS FALSE NEIGHBOUR: 'it returns false'. Refute it at one input. -/
def conditionKeepsWrong : ChangeSpec := { name := "conditionKeeps", fn := fun _ => fun
  | [d1, d2, d3, d4] => { results := [.lit (.bool false)], args := [d1, d2, d3, d4] }
  | _ => none }
def ConditionKeepsWrongFalsely : Prop := conditionKeepsRow.holds Try.pinned (OpenSpec.ofChange conditionKeepsWrong)

/-- 'sewershedlaw50.ConditionPowers': WHATEVER THE INPUT: true; the input reads as it did. -/
def conditionPowersSpec : ChangeSpec := { name := "conditionPowers", fn := fun _ => fun
  | [d1, d2, d3, d4] => { results := [.lit (.bool true)], args := [d1, d2, d3, d4] }
  | _ => none }
def conditionPowersRow : OpenClaim := { program := "ytihaabdgligbbaa", sum := "d6e1c68c041214549adb0fc4c14bd94957cad5a91349647a893060afc7b04ca9", func := "sewershed/sewershedlaw50.ConditionPowers", spec := "conditionPowers", unfollowed := true, recurses := true, named := ["math/bits.divideError", "math/bits.overflowError"], apart := false }
def ConditionPowersSaid : Prop := conditionPowersRow.holds Try.pinned (OpenSpec.ofChange conditionPowersSpec)

/-- ITS FALSE NEIGHBOUR: 'it returns false'. Refute it at one input. -/
def conditionPowersWrong : ChangeSpec := { name := "conditionPowers", fn := fun _ => fun
  | [d1, d2, d3, d4] => { results := [.lit (.bool false)], args := [d1, d2, d3, d4] }
  | _ => none }
def ConditionPowersWrongFalsely : Prop := conditionPowersRow.holds Try.pinned (OpenSpec.ofChange conditionPowersWrong)

/- THE SECOND FORM. 'bulk': how many values and letters a reading holds, each counted each time it is reached (what is shared counts as often as it is met; a slice's spare places count too). A statement '..UptoSaid' is the law's where the arguments, and the package variables that the reading takes, are together of bulk at most 1048576: NARROWER than '..Said'. Prove '..Said' where nothing that the law and all that it calls make is longer than what came in: it says more and counts as full. Else prove '..UptoSaid'. A law counts once. -/
mutual
def uptoBulk {H : Type} : DataW H → Nat
  | .lit (.string bytes) => bytes.length + 1
  | .lit _ => 1
  | .nil => 1
  | .ptr d => uptoBulk d + 1
  | .slice elems spare => uptoBulkAll elems + uptoBulkAll spare + 1
  | .agg parts => uptoBulkAll parts + 1
  | .iface _ d => uptoBulk d + 1
  | .map entries => uptoBulkEntries entries + 1
  | .held _ => 1
def uptoBulkAll {H : Type} : List (DataW H) → Nat
  | [] => 0
  | d :: r => uptoBulk d + uptoBulkAll r
def uptoBulkEntries {H : Type} : List (Lit × DataW H) → Nat
  | [] => 0
  | x :: r => uptoBulkEntry x + uptoBulkEntries r
def uptoBulkEntry {H : Type} : Lit × DataW H → Nat
  | (.string bytes, d) => bytes.length + uptoBulk d + 1
  | (_, d) => uptoBulk d + 1
 end
def uptoSmall : (H : Type) → List (DataW H) → Bool := fun _ ds => decide (uptoBulkAll ds ≤ 1048576)
def OpenSpec.upto (s : _root_.Go.ChangeSpec) : _root_.Go.OpenSpec := { _root_.Go.OpenSpec.ofChange s with cond := some uptoSmall }

/-- 'sewershedlaw50.ConditionExpects', WHERE WHAT IT READS IS OF BULK AT MOST 1048576: true; the input reads as it did. -/
def conditionExpectsUptoRow : OpenClaim := { program := "ytihaabdgligbbaa", sum := "d6e1c68c041214549adb0fc4c14bd94957cad5a91349647a893060afc7b04ca9", func := "sewershed/sewershedlaw50.ConditionExpects", spec := "conditionExpects", unfollowed := true, recurses := true, named := ["math/bits.divideError", "math/bits.overflowError"], apart := false, narrowed := true }
def ConditionExpectsUptoSaid : Prop := conditionExpectsUptoRow.holds Try.pinned (OpenSpec.upto conditionExpectsSpec)

/-- 'sewershedlaw50.ConditionDue', WHERE WHAT IT READS IS OF BULK AT MOST 1048576: true; the input reads as it did. -/
def conditionDueUptoRow : OpenClaim := { program := "ytihaabdgligbbaa", sum := "d6e1c68c041214549adb0fc4c14bd94957cad5a91349647a893060afc7b04ca9", func := "sewershed/sewershedlaw50.ConditionDue", spec := "conditionDue", unfollowed := true, recurses := true, named := ["math/bits.divideError", "math/bits.overflowError"], apart := false, narrowed := true }
def ConditionDueUptoSaid : Prop := conditionDueUptoRow.holds Try.pinned (OpenSpec.upto conditionDueSpec)

/-- 'sewershedlaw50.ConditionYears', WHERE WHAT IT READS IS OF BULK AT MOST 1048576: true; the input reads as it did. -/
def conditionYearsUptoRow : OpenClaim := { program := "ytihaabdgligbbaa", sum := "d6e1c68c041214549adb0fc4c14bd94957cad5a91349647a893060afc7b04ca9", func := "sewershed/sewershedlaw50.ConditionYears", spec := "conditionYears", unfollowed := true, recurses := true, named := ["math/bits.divideError", "math/bits.overflowError"], apart := false, narrowed := true }
def ConditionYearsUptoSaid : Prop := conditionYearsUptoRow.holds Try.pinned (OpenSpec.upto conditionYearsSpec)

/-- 'sewershedlaw50.ConditionTables', WHERE WHAT IT READS IS OF BULK AT MOST 1048576: true; the input reads as it did. -/
def conditionTablesUptoRow : OpenClaim := { program := "ytihaabdgligbbaa", sum := "d6e1c68c041214549adb0fc4c14bd94957cad5a91349647a893060afc7b04ca9", func := "sewershed/sewershedlaw50.ConditionTables", spec := "conditionTables", unfollowed := true, recurses := true, named := ["math/bits.divideError", "math/bits.overflowError"], apart := false, narrowed := true }
def ConditionTablesUptoSaid : Prop := conditionTablesUptoRow.holds Try.pinned (OpenSpec.upto conditionTablesSpec)

/-- 'sewershedlaw50.ConditionCompares', WHERE WHAT IT READS IS OF BULK AT MOST 1048576: true; the input reads as it did. -/
def conditionComparesUptoRow : OpenClaim := { program := "ytihaabdgligbbaa", sum := "d6e1c68c041214549adb0fc4c14bd94957cad5a91349647a893060afc7b04ca9", func := "sewershed/sewershedlaw50.ConditionCompares", spec := "conditionCompares", unfollowed := true, recurses := true, named := ["math/bits.divideError", "math/bits.overflowError"], apart := false, narrowed := true }
def ConditionComparesUptoSaid : Prop := conditionComparesUptoRow.holds Try.pinned (OpenSpec.upto conditionComparesSpec)

/-- 'sewershedlaw50.ConditionRepairs', WHERE WHAT IT READS IS OF BULK AT MOST 1048576: true; the input reads as it did. -/
def conditionRepairsUptoRow : OpenClaim := { program := "ytihaabdgligbbaa", sum := "d6e1c68c041214549adb0fc4c14bd94957cad5a91349647a893060afc7b04ca9", func := "sewershed/sewershedlaw50.ConditionRepairs", spec := "conditionRepairs", unfollowed := true, recurses := true, named := ["math/bits.divideError", "math/bits.overflowError"], apart := false, narrowed := true }
def ConditionRepairsUptoSaid : Prop := conditionRepairsUptoRow.holds Try.pinned (OpenSpec.upto conditionRepairsSpec)

/-- 'sewershedlaw50.ConditionKeeps', WHERE WHAT IT READS IS OF BULK AT MOST 1048576: true; the input reads as it did. -/
def conditionKeepsUptoRow : OpenClaim := { program := "ytihaabdgligbbaa", sum := "d6e1c68c041214549adb0fc4c14bd94957cad5a91349647a893060afc7b04ca9", func := "sewershed/sewershedlaw50.ConditionKeeps", spec := "conditionKeeps", unfollowed := true, recurses := true, named := ["math/bits.divideError", "math/bits.overflowError"], apart := false, narrowed := true }
def ConditionKeepsUptoSaid : Prop := conditionKeepsUptoRow.holds Try.pinned (OpenSpec.upto conditionKeepsSpec)

/-- 'sewershedlaw50.ConditionPowers', WHERE WHAT IT READS IS OF BULK AT MOST 1048576: true; the input reads as it did. -/
def conditionPowersUptoRow : OpenClaim := { program := "ytihaabdgligbbaa", sum := "d6e1c68c041214549adb0fc4c14bd94957cad5a91349647a893060afc7b04ca9", func := "sewershed/sewershedlaw50.ConditionPowers", spec := "conditionPowers", unfollowed := true, recurses := true, named := ["math/bits.divideError", "math/bits.overflowError"], apart := false, narrowed := true }
def ConditionPowersUptoSaid : Prop := conditionPowersUptoRow.holds Try.pinned (OpenSpec.upto conditionPowersSpec)

end Rows
end Go.Proofs.Ytihaabdgligbbaa
