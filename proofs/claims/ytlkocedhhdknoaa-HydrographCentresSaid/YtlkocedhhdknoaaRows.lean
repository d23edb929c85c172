/-
  No cell of these rows narrows 'for every input' (looked for: loops, veiled, ifaces, maps, wideKeys, modest, calm, conditions, laid).
  DERIVED. THE GIVEN ROWS OF THIS SEAT. 8 by the template 'for every input the law returns true; each argument reads behind the call as it read before'; 0 by the template 'total and deterministic' (their statements: YtlkocedhhdknoaaTotals.lean).
  GIVEN WITH THE SEED: the statements are not yours to turn. If you find one false, say at which input.
  Laid BY PROGRAM, IN A SANDBOX (cutbox-rows.mjs): the forced cells as the released guide's own fill.sh prints them over the translation c7a49abe1dc8ce23… (all of the seat's roots in one cut). By AI agents, Wed Nov 11 2026. No macro, syntax, notation, axiom, sorry.
-/
import Derived.Test.YtlkocedhhdknoaaChecked
import GoSem.Claim
import GoSem.ClaimJoined
import GoSem.ClaimMapViews
import Derived.JoinedTies
import Derived.KernelRfl
namespace Go.Proofs.Ytlkocedhhdknoaa
/- THE CELL 'sum', in the pinned program and in every row, IS THE sha256 OF THE DUMP (.gsa) THAT YtlkocedhhdknoaaProg.lean LOADS. Nothing in Lean hashes anything: it is a label: what it is worth is what the hold of that sum in a sandbox is worth. -/
noncomputable def Try.pinned : Pinned := { name := "ytlkocedhhdknoaa", sum := "c7a49abe1dc8ce232e07e4e211bfcc1c168ec8be49e683d28e3a4c238e083af7", checked := Try.checked }
namespace Rows
def none {H : Type} : Left H := { results := [], args := [] }

/-- 'sewershedlaw24.HydrographUnits': WHATEVER THE INPUT: true; the input reads as it did. -/
def hydrographUnitsSpec : ChangeSpec := { name := "hydrographUnits", fn := fun _ => fun
  | [d1, d2, d3, d4, d5, d6] => { results := [.lit (.bool true)], args := [d1, d2, d3, d4, d5, d6] }
  | _ => none }
def hydrographUnitsRow : OpenClaim := { program := "ytlkocedhhdknoaa", sum := "c7a49abe1dc8ce232e07e4e211bfcc1c168ec8be49e683d28e3a4c238e083af7", func := "sewershed/sewershedlaw24.HydrographUnits", spec := "hydrographUnits", unfollowed := true, recurses := true, named := ["math/bits.divideError", "math/bits.overflowError"], apart := false }
def HydrographUnitsSaid : Prop := hydrographUnitsRow.holds Try.pinned (OpenSpec.ofChange hydrographUnitsSpec)

/-- ITS FALSE NEIGHBOUR: 'it returns false'. Refute it at one input. -/
def hydrographUnitsWrong : ChangeSpec := { name := "hydrographUnits", fn := fun _ => fun
  | [d1, d2, d3, d4, d5, d6] => { results := [.lit (.bool false)], args := [d1, d2, d3, d4, d5, d6] }
  | _ => none }
def HydrographUnitsWrongFalsely : Prop := hydrographUnitsRow.holds Try.pinned (OpenSpec.ofChange hydrographUnitsWrong)

/-- 'sewershedlaw24.HydrographConvolves': WHATEVER THE INPUT: true; the input reads as it did. -/
def hydrographConvolvesSpec : ChangeSpec := { name := "hydrographConvolves", fn := fun _ => fun
  | [d1, d2] => { results := [.lit (.bool true)], args := [d1, d2] }
  | _ => none }
def hydrographConvolvesRow : OpenClaim := { program := "ytlkocedhhdknoaa", sum := "c7a49abe1dc8ce232e07e4e211bfcc1c168ec8be49e683d28e3a4c238e083af7", func := "sewershed/sewershedlaw24.HydrographConvolves", spec := "hydrographConvolves", unfollowed := true, recurses := true, named := ["math/bits.divideError", "math/bits.overflowError"], apart := false }
def HydrographConvolvesSaid : Prop := hydrographConvolvesRow.holds Try.pinned (OpenSpec.ofChange hydrographConvolvesSpec)

/-- ITS FALSE NEIGHBOUR: 'it returns false'. Refute it at one input. -/
def hydrographConvolvesWrong : ChangeSpec := { name := "hydrographConvolves", fn := fun _ => fun
  | [d1, d2] => { results := [.lit (.bool false)], args := [d1, d2] }
  | _ => none }
def HydrographConvolvesWrongFalsely : Prop := hydrographConvolvesRow.holds Try.pinned (OpenSpec.ofChange hydrographConvolvesWrong)

/-- 'sewershedlaw24.HydrographLoses': WHATEVER THE INPUT: true; the input reads as it did. -/
def hydrographLosesSpec : ChangeSpec := { name := "hydrographLoses", fn := fun _ => fun
  | [d1, d2] => { results := [.lit (.bool true)], args := [d1, d2] }
  | _ => none }
def hydrographLosesRow : OpenClaim := { program := "ytlkocedhhdknoaa", sum := "c7a49abe1dc8ce232e07e4e211bfcc1c168ec8be49e683d28e3a4c238e083af7", func := "sewershed/sewershedlaw24.HydrographLoses", spec := "hydrographLoses", unfollowed := true, recurses := true, named := ["math/bits.divideError", "math/bits.overflowError"], apart := false }
def HydrographLosesSaid : Prop := hydrographLosesRow.holds Try.pinned (OpenSpec.ofChange hydrographLosesSpec)

/-- ITS FALSE NEIGHBOUR: 'it returns false'. Refute it at one input. -/
def hydrographLosesWrong : ChangeSpec := { name := "hydrographLoses", fn := fun _ => fun
  | [d1, d2] => { results := [.lit (.bool false)], args := [d1, d2] }
  | _ => none }
def HydrographLosesWrongFalsely : Prop := hydrographLosesRow.holds Try.pinned (OpenSpec.ofChange hydrographLosesWrong)

/-- 'sewershedlaw24.HydrographCurves': WHATEVER THE INPUT: true; the input reads as it did. -/
def hydrographCurvesSpec : ChangeSpec := { name := "hydrographCurves", fn := fun _ => fun
  | [d1, d2] => { results := [.lit (.bool true)], args := [d1, d2] }
  | _ => none }
def hydrographCurvesRow : OpenClaim := { program := "ytlkocedhhdknoaa", sum := "c7a49abe1dc8ce232e07e4e211bfcc1c168ec8be49e683d28e3a4c238e083af7", func := "sewershed/sewershedlaw24.HydrographCurves", spec := "hydrographCurves", unfollowed := true, recurses := true, named := ["math/bits.divideError", "math/bits.overflowError"], apart := false }
def HydrographCurvesSaid : Prop := hydrographCurvesRow.holds Try.pinned (OpenSpec.ofChange hydrographCurvesSpec)

/-- ITS FALSE NEIGHBOUR: 'it returns false'. Refute it at one input. -/
def hydrographCurvesWrong : ChangeSpec := { name := "hydrographCurves", fn := fun _ => fun
  | [d1, d2] => { results := [.lit (.bool false)], args := [d1, d2] }
  | _ => none }
def HydrographCurvesWrongFalsely : Prop := hydrographCurvesRow.holds Try.pinned (OpenSpec.ofChange hydrographCurvesWrong)

/-- 'sewershedlaw24.HydrographTogether': WHATEVER THE INPUT: true; the input reads as it did. -/
def hydrographTogetherSpec : ChangeSpec := { name := "hydrographTogether", fn := fun _ => fun
  | [d1, d2, d3, d4, d5, d6, d7] => { results := [.lit (.bool true)], args := [d1, d2, d3, d4, d5, d6, d7] }
  | _ => none }
def hydrographTogetherRow : OpenClaim := { program := "ytlkocedhhdknoaa", sum := "c7a49abe1dc8ce232e07e4e211bfcc1c168ec8be49e683d28e3a4c238e083af7", func := "sewershed/sewershedlaw24.HydrographTogether", spec := "hydrographTogether", unfollowed := true, recurses := true, named := ["math/bits.divideError", "math/bits.overflowError"], apart := false }
def HydrographTogetherSaid : Prop := hydrographTogetherRow.holds Try.pinned (OpenSpec.ofChange hydrographTogetherSpec)

/-- ITS FALSE NEIGHBOUR: 'it returns false'. Refute it at one input. -/
def hydrographTogetherWrong : ChangeSpec := { name := "hydrographTogether", fn := fun _ => fun
  | [d1, d2, d3, d4, d5, d6, d7] => { results := [.lit (.bool false)], args := [d1, d2, d3, d4, d5, d6, d7] }
  | _ => none }
def HydrographTogetherWrongFalsely : Prop := hydrographTogetherRow.holds Try.pinned (OpenSpec.ofChange hydrographTogetherWrong)

/-- 'sewershedlaw24.HydrographDelays': WHATEVER THE INPUT: true; the input reads as it did. -/
def hydrographDelaysSpec : ChangeSpec := { name := "hydrographDelays", fn := fun _ => fun
  | [d1, d2, d3, d4] => { results := [.lit (.bool true)], args := [d1, d2, d3, d4] }
  | _ => none }
def hydrographDelaysRow : OpenClaim := { program := "ytlkocedhhdknoaa", sum := "c7a49abe1dc8ce232e07e4e211bfcc1c168ec8be49e683d28e3a4c238e083af7", func := "sewershed/sewershedlaw24.HydrographDelays", spec := "hydrographDelays", unfollowed := true, recurses := true, named := ["math/bits.divideError", "math/bits.overflowError"], apart := false }
def HydrographDelaysSaid : Prop := hydrographDelaysRow.holds Try.pinned (OpenSpec.ofChange hydrographDelaysSpec)

/-- ITS FALSE NEIGHBOUR: 'it returns false'. Refute it at one input. -/
def hydrographDelaysWrong : ChangeSpec := { name := "hydrographDelays", fn := fun _ => fun
  | [d1, d2, d3, d4] => { results := [.lit (.bool false)], args := [d1, d2, d3, d4] }
  | _ => none }
def HydrographDelaysWrongFalsely : Prop := hydrographDelaysRow.holds Try.pinned (OpenSpec.ofChange hydrographDelaysWrong)

/-- 'sewershedlaw24.HydrographCentres': WHATEVER THE INPUT: true; the input reads as it did. -/
def hydrographCentresSpec : ChangeSpec := { name := "hydrographCentres", fn := fun _ => fun
  | [d] => { results := [.lit (.bool true)], args := [d] }
  | _ => none }
def hydrographCentresRow : OpenClaim := { program := "ytlkocedhhdknoaa", sum := "c7a49abe1dc8ce232e07e4e211bfcc1c168ec8be49e683d28e3a4c238e083af7", func := "sewershed/sewershedlaw24.HydrographCentres", spec := "hydrographCentres", unfollowed := true, recurses := true, named := ["math/bits.divideError", "math/bits.overflowError"], apart := false }
def HydrographCentresSaid : Prop := hydrographCentresRow.holds Try.pinned (OpenSpec.ofChange hydrographCentresSpec)

/-- ITS FALSE NEIGHBOUR: 'it returns false'. Refute it at one input. -/
def hydrographCentresWrong : ChangeSpec := { name := "hydrographCentres", fn := fun _ => fun
  | [d] => { results := [.lit (.bool false)], args := [d] }
  | _ => none }
def HydrographCentresWrongFalsely : Prop := hydrographCentresRow.holds Try.pinned (OpenSpec.ofChange hydrographCentresWrong)

/-- 'sewershedlaw24.HydrographSeries': WHATEVER THE INPUT: true; the input reads as it did. -/
def hydrographSeriesSpec : ChangeSpec := { name := "hydrographSeries", fn := fun _ => fun
  | [d1, d2, d3] => { results := [.lit (.bool true)], args := [d1, d2, d3] }
  | _ => none }
def hydrographSeriesRow : OpenClaim := { program := "ytlkocedhhdknoaa", sum := "c7a49abe1dc8ce232e07e4e211bfcc1c168ec8be49e683d28e3a4c238e083af7", func := "sewershed/sewershedlaw24.HydrographSeries", spec := "hydrographSeries", unfollowed := true, recurses := true, named := ["math/bits.divideError", "math/bits.overflowError"], apart := false }
def HydrographSeriesSaid : Prop := hydrographSeriesRow.holds Try.pinned (OpenSpec.ofChange hydrographSeriesSpec)

/-- ITS FALSE NEIGHBOUR: 'it returns false'. Refute it at one input. -/
def hydrographSeriesWrong : ChangeSpec := { name := "hydrographSeries", fn := fun _ => fun
  | [d1, d2, d3] => { results := [.lit (.bool false)], args := [d1, d2, d3] }
  | _ => none }
def HydrographSeriesWrongFalsely : Prop := hydrographSeriesRow.holds Try.pinned (OpenSpec.ofChange hydrographSeriesWrong)

/- THE SECOND FORM. 'bulk': how many values and letters a reading holds, each counted each time it is reached (what is shared counts as often as it is met; a slice's spare places count too). A statement '..UptoSaid' is the law's where the arguments, and the package variables that the reading takes, are together of bulk at most 1048576: NARROWER than '..Said'. Prove '..Said' where nothing that the law and all that it calls make is longer than what came in: it says more and counts as full. Else prove '..UptoSaid'. A law counts once. -/
mutual
def uptoBulk {H : Type} : DataW H → Nat
  | .lit (.string bytes) => bytes.length + 1
  | .lit _ => 1
  | .nil => 1
  | .ptr d => uptoBulk d + 1
  | .slice elems spare => uptoBulkAll elems + uptoBulkAll spare + 1
  | .agg parts => uptoBulkAll parts + 1
  | .iface _ d => uptoBulk d + 1
  | .map entries => uptoBulkEntries entries + 1
  | .held _ => 1
def uptoBulkAll {H : Type} : List (DataW H) → Nat
  | [] => 0
  | d :: r => uptoBulk d + uptoBulkAll r
def uptoBulkEntries {H : Type} : List (Lit × DataW H) → Nat
  | [] => 0
  | x :: r => uptoBulkEntry x + uptoBulkEntries r
def uptoBulkEntry {H : Type} : Lit × DataW H → Nat
  | (.string bytes, d) => bytes.length + uptoBulk d + 1
  | (_, d) => uptoBulk d + 1
 end
def uptoSmall : (H : Type) → List (DataW H) → Bool := fun _ ds => decide (uptoBulkAll ds ≤ 1048576)
def OpenSpec.upto (s : _root_.Go.ChangeSpec) : _root_.Go.OpenSpec := { _root_.Go.OpenSpec.ofChange s with cond := some uptoSmall }

/-- 'sewershedlaw24.HydrographUnits', WHERE WHAT IT READS IS OF BULK AT MOST 1048576: true; the input reads as it did. -/
def hydrographUnitsUptoRow : OpenClaim := { program := "ytlkocedhhdknoaa", sum := "c7a49abe1dc8ce232e07e4e211bfcc1c168ec8be49e683d28e3a4c238e083af7", func := "sewershed/sewershedlaw24.HydrographUnits", spec := "hydrographUnits", unfollowed := true, recurses := true, named := ["math/bits.divideError", "math/bits.overflowError"], apart := false, narrowed := true }
def HydrographUnitsUptoSaid : Prop := hydrographUnitsUptoRow.holds Try.pinned (OpenSpec.upto hydrographUnitsSpec)

/-- 'sewershedlaw24.HydrographConvolves', WHERE WHAT IT READS IS OF BULK AT MOST 1048576: true; the input reads as it did. -/
def hydrographConvolvesUptoRow : OpenClaim := { program := "ytlkocedhhdknoaa", sum := "c7a49abe1dc8ce232e07e4e211bfcc1c168ec8be49e683d28e3a4c238e083af7", func := "sewershed/sewershedlaw24.HydrographConvolves", spec := "hydrographConvolves", unfollowed := true, recurses := true, named := ["math/bits.divideError", "math/bits.overflowError"], apart := false, narrowed := true }
def HydrographConvolvesUptoSaid : Prop := hydrographConvolvesUptoRow.holds Try.pinned (OpenSpec.upto hydrographConvolvesSpec)

/-- 'sewershedlaw24.HydrographLoses', WHERE WHAT IT READS IS OF BULK AT MOST 1048576: true; the input reads as it did. -/
def hydrographLosesUptoRow : OpenClaim := { program := "ytlkocedhhdknoaa", sum := "c7a49abe1dc8ce232e07e4e211bfcc1c168ec8be49e683d28e3a4c238e083af7", func := "sewershed/sewershedlaw24.HydrographLoses", spec := "hydrographLoses", unfollowed := true, recurses := true, named := ["math/bits.divideError", "math/bits.overflowError"], apart := false, narrowed := true }
def HydrographLosesUptoSaid : Prop := hydrographLosesUptoRow.holds Try.pinned (OpenSpec.upto hydrographLosesSpec)

/-- 'sewershedlaw24.HydrographCurves', WHERE WHAT IT READS IS OF BULK AT MOST 1048576: true; the input reads as it did. -/
def hydrographCurvesUptoRow : OpenClaim := { program := "ytlkocedhhdknoaa", sum := "c7a49abe1dc8ce232e07e4e211bfcc1c168ec8be49e683d28e3a4c238e083af7", func := "sewershed/sewershedlaw24.HydrographCurves", spec := "hydrographCurves", unfollowed := true, recurses := true, named := ["math/bits.divideError", "math/bits.overflowError"], apart := false, narrowed := true }
def HydrographCurvesUptoSaid : Prop := hydrographCurvesUptoRow.holds Try.pinned (OpenSpec.upto hydrographCurvesSpec)

/-- 'sewershedlaw24.HydrographTogether', WHERE WHAT IT READS IS OF BULK AT MOST 1048576: true; the input reads as it did. -/
def hydrographTogetherUptoRow : OpenClaim := { program := "ytlkocedhhdknoaa", sum := "c7a49abe1dc8ce232e07e4e211bfcc1c168ec8be49e683d28e3a4c238e083af7", func := "sewershed/sewershedlaw24.HydrographTogether", spec := "hydrographTogether", unfollowed := true, recurses := true, named := ["math/bits.divideError", "math/bits.overflowError"], apart := false, narrowed := true }
def HydrographTogetherUptoSaid : Prop := hydrographTogetherUptoRow.holds Try.pinned (OpenSpec.upto hydrographTogetherSpec)

/-- 'sewershedlaw24.HydrographDelays', WHERE WHAT IT READS IS OF BULK AT MOST 1048576: true; the input reads as it did. -/
def hydrographDelaysUptoRow : OpenClaim := { program := "ytlkocedhhdknoaa", sum := "c7a49abe1dc8ce232e07e4e211bfcc1c168ec8be49e683d28e3a4c238e083af7", func := "sewershed/sewershedlaw24.HydrographDelays", spec := "hydrographDelays", unfollowed := true, recurses := true, named := ["math/bits.divideError", "math/bits.overflowError"], apart := false, narrowed := true }
def HydrographDelaysUptoSaid : Prop := hydrographDelaysUptoRow.holds Try.pinned (OpenSpec.upto hydrographDelaysSpec)

/-- 'sewershedlaw24.HydrographCentres', WHERE WHAT IT READS IS OF BULK AT MOST 1048576: true; the input reads as it did. -/
def hydrographCentresUptoRow : OpenClaim := { program := "ytlkocedhhdknoaa", sum := "c7a49abe1dc8ce232e07e4e211bfcc1c168ec8be49e683d28e3a4c238e083af7", func := "sewershed/sewershedlaw24.HydrographCentres", spec := "hydrographCentres", unfollowed := true, recurses := true, named := ["math/bits.divideError", "math/bits.overflowError"], apart := false, narrowed := true }
def HydrographCentresUptoSaid : Prop := hydrographCentresUptoRow.holds Try.pinned (OpenSpec.upto hydrographCentresSpec)

/-- 'sewershedlaw24.HydrographSeries', WHERE WHAT IT READS IS OF BULK AT MOST 1048576: true; the input reads as it did. -/
def hydrographSeriesUptoRow : OpenClaim := { program := "ytlkocedhhdknoaa", sum := "c7a49abe1dc8ce232e07e4e211bfcc1c168ec8be49e683d28e3a4c238e083af7", func := "sewershed/sewershedlaw24.HydrographSeries", spec := "hydrographSeries", unfollowed := true, recurses := true, named := ["math/bits.divideError", "math/bits.overflowError"], apart := false, narrowed := true }
def HydrographSeriesUptoSaid : Prop := hydrographSeriesUptoRow.holds Try.pinned (OpenSpec.upto hydrographSeriesSpec)

end Rows
end Go.Proofs.Ytlkocedhhdknoaa
