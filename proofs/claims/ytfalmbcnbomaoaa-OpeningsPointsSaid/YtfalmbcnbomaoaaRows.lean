/-
  No cell of these rows narrows 'for every input' (looked for: loops, veiled, ifaces, maps, wideKeys, modest, calm, conditions, laid).
  DERIVED. THE GIVEN ROWS OF THIS SEAT. 8 by the template 'for every input the law returns true; each argument reads behind the call as it read before'; 0 by the template 'total and deterministic' (their statements: YtfalmbcnbomaoaaTotals.lean).
  GIVEN WITH THE SEED: the statements are not yours to turn. If you find one false, say at which input.
  Laid BY PROGRAM, IN A SANDBOX (cutbox-rows.mjs): the forced cells as the released guide's own fill.sh prints them over the translation 7dcccac0bc95e404… (all of the seat's roots in one cut). By AI agents, Wed Nov 11 2026. No macro, syntax, notation, axiom, sorry.
-/
import Derived.Test.YtfalmbcnbomaoaaChecked
import GoSem.Claim
import GoSem.ClaimJoined
import GoSem.ClaimMapViews
import Derived.JoinedTies
import Derived.KernelRfl
namespace Go.Proofs.Ytfalmbcnbomaoaa
/- THE CELL 'sum', in the pinned program and in every row, IS THE sha256 OF THE DUMP (.gsa) THAT YtfalmbcnbomaoaaProg.lean LOADS. Nothing in Lean hashes anything: it is a label: what it is worth is what the hold of that sum in a sandbox is worth. -/
noncomputable def Try.pinned : Pinned := { name := "ytfalmbcnbomaoaa", sum := "7dcccac0bc95e40432e56a9f0b7be1f379731b875a6347d9fd95573ee64fe665", checked := Try.checked }
namespace Rows
def none {H : Type} : Left H := { results := [], args := [] }

/-- 'sewershedlaw32.OpeningsFlows': WHATEVER THE INPUT: true; the input reads as it did. -/
def openingsFlowsSpec : ChangeSpec := { name := "openingsFlows", fn := fun _ => fun
  | [d1, d2, d3] => { results := [.lit (.bool true)], args := [d1, d2, d3] }
  | _ => none }
def openingsFlowsRow : OpenClaim := { program := "ytfalmbcnbomaoaa", sum := "7dcccac0bc95e40432e56a9f0b7be1f379731b875a6347d9fd95573ee64fe665", func := "sewershed/sewershedlaw32.OpeningsFlows", spec := "openingsFlows", named := ["math/bits.divideError", "math/bits.overflowError"], apart := false }
def OpeningsFlowsSaid : Prop := openingsFlowsRow.holds Try.pinned (OpenSpec.ofChange openingsFlowsSpec)

/-- ITS FALSE NEIGHBOUR: 'it returns false'. Refute it at one input. -/
def openingsFlowsWrong : ChangeSpec := { name := "openingsFlows", fn := fun _ => fun
  | [d1, d2, d3] => { results := [.lit (.bool false)], args := [d1, d2, d3] }
  | _ => none }
def OpeningsFlowsWrongFalsely : Prop := openingsFlowsRow.holds Try.pinned (OpenSpec.ofChange openingsFlowsWrong)

/-- 'sewershedlaw32.OpeningsSquares': WHATEVER THE INPUT: true; the input reads as it did. -/
def openingsSquaresSpec : ChangeSpec := { name := "openingsSquares", fn := fun _ => fun
  | [d1, d2, d3] => { results := [.lit (.bool true)], args := [d1, d2, d3] }
  | _ => none }
def openingsSquaresRow : OpenClaim := { program := "ytfalmbcnbomaoaa", sum := "7dcccac0bc95e40432e56a9f0b7be1f379731b875a6347d9fd95573ee64fe665", func := "sewershed/sewershedlaw32.OpeningsSquares", spec := "openingsSquares", named := ["math/bits.divideError", "math/bits.overflowError"], apart := false }
def OpeningsSquaresSaid : Prop := openingsSquaresRow.holds Try.pinned (OpenSpec.ofChange openingsSquaresSpec)

/-- ITS FALSE NEIGHBOUR: 'it returns false'. Refute it at one input. -/
def openingsSquaresWrong : ChangeSpec := { name := "openingsSquares", fn := fun _ => fun
  | [d1, d2, d3] => { results := [.lit (.bool false)], args := [d1, d2, d3] }
  | _ => none }
def OpeningsSquaresWrongFalsely : Prop := openingsSquaresRow.holds Try.pinned (OpenSpec.ofChange openingsSquaresWrong)

/-- 'sewershedlaw32.OpeningsLinks': WHATEVER THE INPUT: true; the input reads as it did. -/
def openingsLinksSpec : ChangeSpec := { name := "openingsLinks", fn := fun _ => fun
  | [d1, d2, d3, d4] => { results := [.lit (.bool true)], args := [d1, d2, d3, d4] }
  | _ => none }
def openingsLinksRow : OpenClaim := { program := "ytfalmbcnbomaoaa", sum := "7dcccac0bc95e40432e56a9f0b7be1f379731b875a6347d9fd95573ee64fe665", func := "sewershed/sewershedlaw32.OpeningsLinks", spec := "openingsLinks", named := ["math/bits.divideError", "math/bits.overflowError"], apart := false }
def OpeningsLinksSaid : Prop := openingsLinksRow.holds Try.pinned (OpenSpec.ofChange openingsLinksSpec)

/-- ITS FALSE NEIGHBOUR: 'it returns false'. Refute it at one input. -/
def openingsLinksWrong : ChangeSpec := { name := "openingsLinks", fn := fun _ => fun
  | [d1, d2, d3, d4] => { results := [.lit (.bool false)], args := [d1, d2, d3, d4] }
  | _ => none }
def OpeningsLinksWrongFalsely : Prop := openingsLinksRow.holds Try.pinned (OpenSpec.ofChange openingsLinksWrong)

/-- 'sewershedlaw32.OpeningsGrow': WHATEVER THE INPUT: true; the input reads as it did. -/
def openingsGrowSpec : ChangeSpec := { name := "openingsGrow", fn := fun _ => fun
  | [d1, d2, d3, d4, d5, d6, d7, d8] => { results := [.lit (.bool true)], args := [d1, d2, d3, d4, d5, d6, d7, d8] }
  | _ => none }
def openingsGrowRow : OpenClaim := { program := "ytfalmbcnbomaoaa", sum := "7dcccac0bc95e40432e56a9f0b7be1f379731b875a6347d9fd95573ee64fe665", func := "sewershed/sewershedlaw32.OpeningsGrow", spec := "openingsGrow", named := ["math/bits.divideError", "math/bits.overflowError"], apart := false }
def OpeningsGrowSaid : Prop := openingsGrowRow.holds Try.pinned (OpenSpec.ofChange openingsGrowSpec)

/-- ITS FALSE NEIGHBOUR: 'it returns false'. Refute it at one input. -/
def openingsGrowWrong : ChangeSpec := { name := "openingsGrow", fn := fun _ => fun
  | [d1, d2, d3, d4, d5, d6, d7, d8] => { results := [.lit (.bool false)], args := [d1, d2, d3, d4, d5, d6, d7, d8] }
  | _ => none }
def OpeningsGrowWrongFalsely : Prop := openingsGrowRow.holds Try.pinned (OpenSpec.ofChange openingsGrowWrong)

/-- 'sewershedlaw32.OpeningsNeeds': WHATEVER THE INPUT: true; the input reads as it did. -/
def openingsNeedsSpec : ChangeSpec := { name := "openingsNeeds", fn := fun _ => fun
  | [d1, d2, d3, d4, d5] => { results := [.lit (.bool true)], args := [d1, d2, d3, d4, d5] }
  | _ => none }
def openingsNeedsRow : OpenClaim := { program := "ytfalmbcnbomaoaa", sum := "7dcccac0bc95e40432e56a9f0b7be1f379731b875a6347d9fd95573ee64fe665", func := "sewershed/sewershedlaw32.OpeningsNeeds", spec := "openingsNeeds", unfollowed := true, recurses := true, named := ["math/bits.divideError", "math/bits.overflowError"], apart := false }
def OpeningsNeedsSaid : Prop := openingsNeedsRow.holds Try.pinned (OpenSpec.ofChange openingsNeedsSpec)

/-- ITS FALSE NEIGHBOUR: 'it returns false'. Refute it at one input. -/
def openingsNeedsWrong : ChangeSpec := { name := "openingsNeeds", fn := fun _ => fun
  | [d1, d2, d3, d4, d5] => { results := [.lit (.bool false)], args := [d1, d2, d3, d4, d5] }
  | _ => none }
def OpeningsNeedsWrongFalsely : Prop := openingsNeedsRow.holds Try.pinned (OpenSpec.ofChange openingsNeedsWrong)

/-- 'sewershedlaw32.OpeningsEnough': WHATEVER THE INPUT: true; the input reads as it did. -/
def openingsEnoughSpec : ChangeSpec := { name := "openingsEnough", fn := fun _ => fun
  | [d1, d2, d3, d4, d5] => { results := [.lit (.bool true)], args := [d1, d2, d3, d4, d5] }
  | _ => none }
def openingsEnoughRow : OpenClaim := { program := "ytfalmbcnbomaoaa", sum := "7dcccac0bc95e40432e56a9f0b7be1f379731b875a6347d9fd95573ee64fe665", func := "sewershed/sewershedlaw32.OpeningsEnough", spec := "openingsEnough", unfollowed := true, recurses := true, named := ["math/bits.divideError", "math/bits.overflowError"], apart := false }
def OpeningsEnoughSaid : Prop := openingsEnoughRow.holds Try.pinned (OpenSpec.ofChange openingsEnoughSpec)

/-- ITS FALSE NEIGHBOUR: 'it returns false'. Refute it at one input. -/
def openingsEnoughWrong : ChangeSpec := { name := "openingsEnough", fn := fun _ => fun
  | [d1, d2, d3, d4, d5] => { results := [.lit (.bool false)], args := [d1, d2, d3, d4, d5] }
  | _ => none }
def OpeningsEnoughWrongFalsely : Prop := openingsEnoughRow.holds Try.pinned (OpenSpec.ofChange openingsEnoughWrong)

/-- 'sewershedlaw32.OpeningsSpans': WHATEVER THE INPUT: true; the input reads as it did. -/
def openingsSpansSpec : ChangeSpec := { name := "openingsSpans", fn := fun _ => fun
  | [d1, d2, d3, d4, d5, d6] => { results := [.lit (.bool true)], args := [d1, d2, d3, d4, d5, d6] }
  | _ => none }
def openingsSpansRow : OpenClaim := { program := "ytfalmbcnbomaoaa", sum := "7dcccac0bc95e40432e56a9f0b7be1f379731b875a6347d9fd95573ee64fe665", func := "sewershed/sewershedlaw32.OpeningsSpans", spec := "openingsSpans", named := ["math/bits.divideError", "math/bits.overflowError"], apart := false }
def OpeningsSpansSaid : Prop := openingsSpansRow.holds Try.pinned (OpenSpec.ofChange openingsSpansSpec)

/-- ITS FALSE NEIGHBOUR: 'it returns false'. Refute it at one input. -/
def openingsSpansWrong : ChangeSpec := { name := "openingsSpans", fn := fun _ => fun
  | [d1, d2, d3, d4, d5, d6] => { results := [.lit (.bool false)], args := [d1, d2, d3, d4, d5, d6] }
  | _ => none }
def OpeningsSpansWrongFalsely : Prop := openingsSpansRow.holds Try.pinned (OpenSpec.ofChange openingsSpansWrong)

/-- 'sewershedlaw32.OpeningsPoints': WHATEVER THE INPUT: true; the input reads as it did. -/
def openingsPointsSpec : ChangeSpec := { name := "openingsPoints", fn := fun _ => fun
  | [d1, d2, d3, d4, d5, d6, d7, d8, d9] => { results := [.lit (.bool true)], args := [d1, d2, d3, d4, d5, d6, d7, d8, d9] }
  | _ => none }
def openingsPointsRow : OpenClaim := { program := "ytfalmbcnbomaoaa", sum := "7dcccac0bc95e40432e56a9f0b7be1f379731b875a6347d9fd95573ee64fe665", func := "sewershed/sewershedlaw32.OpeningsPoints", spec := "openingsPoints", unfollowed := true, recurses := true, named := ["math/bits.divideError", "math/bits.overflowError"], apart := false }
def OpeningsPointsSaid : Prop := openingsPointsRow.holds Try.pinned (OpenSpec.ofChange openingsPointsSpec)

/-- ITS FALSE NEIGHBOUR: 'it returns false'. Refute it at one input. -/
def openingsPointsWrong : ChangeSpec := { name := "openingsPoints", fn := fun _ => fun
  | [d1, d2, d3, d4, d5, d6, d7, d8, d9] => { results := [.lit (.bool false)], args := [d1, d2, d3, d4, d5, d6, d7, d8, d9] }
  | _ => none }
def OpeningsPointsWrongFalsely : Prop := openingsPointsRow.holds Try.pinned (OpenSpec.ofChange openingsPointsWrong)

/- THE SECOND FORM. 'bulk': how many values and letters a reading holds, each counted each time it is reached (what is shared counts as often as it is met; a slice's spare places count too). A statement '..UptoSaid' is the law's where the arguments, and the package variables that the reading takes, are together of bulk at most 1048576: NARROWER than '..Said'. Prove '..Said' where nothing that the law and all that it calls make is longer than what came in: it says more and counts as full. Else prove '..UptoSaid'. A law counts once. -/
mutual
def uptoBulk {H : Type} : DataW H → Nat
  | .lit (.string bytes) => bytes.length + 1
  | .lit _ => 1
  | .nil => 1
  | .ptr d => uptoBulk d + 1
  | .slice elems spare => uptoBulkAll elems + uptoBulkAll spare + 1
  | .agg parts => uptoBulkAll parts + 1
  | .iface _ d => uptoBulk d + 1
  | .map entries => uptoBulkEntries entries + 1
  | .held _ => 1
def uptoBulkAll {H : Type} : List (DataW H) → Nat
  | [] => 0
  | d :: r => uptoBulk d + uptoBulkAll r
def uptoBulkEntries {H : Type} : List (Lit × DataW H) → Nat
  | [] => 0
  | x :: r => uptoBulkEntry x + uptoBulkEntries r
def uptoBulkEntry {H : Type} : Lit × DataW H → Nat
  | (.string bytes, d) => bytes.length + uptoBulk d + 1
  | (_, d) => uptoBulk d + 1
 end
def uptoSmall : (H : Type) → List (DataW H) → Bool := fun _ ds => decide (uptoBulkAll ds ≤ 1048576)
def OpenSpec.upto (s : _root_.Go.ChangeSpec) : _root_.Go.OpenSpec := { _root_.Go.OpenSpec.ofChange s with cond := some uptoSmall }

/-- 'sewershedlaw32.OpeningsFlows', WHERE WHAT IT READS IS OF BULK AT MOST 1048576: true; the input reads as it did. -/
def openingsFlowsUptoRow : OpenClaim := { program := "ytfalmbcnbomaoaa", sum := "7dcccac0bc95e40432e56a9f0b7be1f379731b875a6347d9fd95573ee64fe665", func := "sewershed/sewershedlaw32.OpeningsFlows", spec := "openingsFlows", named := ["math/bits.divideError", "math/bits.overflowError"], apart := false, narrowed := true }
def OpeningsFlowsUptoSaid : Prop := openingsFlowsUptoRow.holds Try.pinned (OpenSpec.upto openingsFlowsSpec)

/-- 'sewershedlaw32.OpeningsSquares', WHERE WHAT IT READS IS OF BULK AT MOST 1048576: true; the input reads as it did. -/
def openingsSquaresUptoRow : OpenClaim := { program := "ytfalmbcnbomaoaa", sum := "7dcccac0bc95e40432e56a9f0b7be1f379731b875a6347d9fd95573ee64fe665", func := "sewershed/sewershedlaw32.OpeningsSquares", spec := "openingsSquares", named := ["math/bits.divideError", "math/bits.overflowError"], apart := false, narrowed := true }
def OpeningsSquaresUptoSaid : Prop := openingsSquaresUptoRow.holds Try.pinned (OpenSpec.upto openingsSquaresSpec)

/-- 'sewershedlaw32.OpeningsLinks', WHERE WHAT IT READS IS OF BULK AT MOST 1048576: true; the input reads as it did. -/
def openingsLinksUptoRow : OpenClaim := { program := "ytfalmbcnbomaoaa", sum := "7dcccac0bc95e40432e56a9f0b7be1f379731b875a6347d9fd95573ee64fe665", func := "sewershed/sewershedlaw32.OpeningsLinks", spec := "openingsLinks", named := ["math/bits.divideError", "math/bits.overflowError"], apart := false, narrowed := true }
def OpeningsLinksUptoSaid : Prop := openingsLinksUptoRow.holds Try.pinned (OpenSpec.upto openingsLinksSpec)

/-- 'sewershedlaw32.OpeningsGrow', WHERE WHAT IT READS IS OF BULK AT MOST 1048576: true; the input reads as it did. -/
def openingsGrowUptoRow : OpenClaim := { program := "ytfalmbcnbomaoaa", sum := "7dcccac0bc95e40432e56a9f0b7be1f379731b875a6347d9fd95573ee64fe665", func := "sewershed/sewershedlaw32.OpeningsGrow", spec := "openingsGrow", named := ["math/bits.divideError", "math/bits.overflowError"], apart := false, narrowed := true }
def OpeningsGrowUptoSaid : Prop := openingsGrowUptoRow.holds Try.pinned (OpenSpec.upto openingsGrowSpec)

/-- 'sewershedlaw32.OpeningsNeeds', WHERE WHAT IT READS IS OF BULK AT MOST 1048576: true; the input reads as it did. -/
def openingsNeedsUptoRow : OpenClaim := { program := "ytfalmbcnbomaoaa", sum := "7dcccac0bc95e40432e56a9f0b7be1f379731b875a6347d9fd95573ee64fe665", func := "sewershed/sewershedlaw32.OpeningsNeeds", spec := "openingsNeeds", unfollowed := true, recurses := true, named := ["math/bits.divideError", "math/bits.overflowError"], apart := false, narrowed := true }
def OpeningsNeedsUptoSaid : Prop := openingsNeedsUptoRow.holds Try.pinned (OpenSpec.upto openingsNeedsSpec)

/-- 'sewershedlaw32.OpeningsEnough', WHERE WHAT IT READS IS OF BULK AT MOST 1048576: true; the input reads as it did. -/
def openingsEnoughUptoRow : OpenClaim := { program := "ytfalmbcnbomaoaa", sum := "7dcccac0bc95e40432e56a9f0b7be1f379731b875a6347d9fd95573ee64fe665", func := "sewershed/sewershedlaw32.OpeningsEnough", spec := "openingsEnough", unfollowed := true, recurses := true, named := ["math/bits.divideError", "math/bits.overflowError"], apart := false, narrowed := true }
def OpeningsEnoughUptoSaid : Prop := openingsEnoughUptoRow.holds Try.pinned (OpenSpec.upto openingsEnoughSpec)

/-- 'sewershedlaw32.OpeningsSpans', WHERE WHAT IT READS IS OF BULK AT MOST 1048576: true; the input reads as it did. -/
def openingsSpansUptoRow : OpenClaim := { program := "ytfalmbcnbomaoaa", sum := "7dcccac0bc95e40432e56a9f0b7be1f379731b875a6347d9fd95573ee64fe665", func := "sewershed/sewershedlaw32.OpeningsSpans", spec := "openingsSpans", named := ["math/bits.divideError", "math/bits.overflowError"], apart := false, narrowed := true }
def OpeningsSpansUptoSaid : Prop := openingsSpansUptoRow.holds Try.pinned (OpenSpec.upto openingsSpansSpec)

/-- 'sewershedlaw32.OpeningsPoints', WHERE WHAT IT READS IS OF BULK AT MOST 1048576: true; the input reads as it did. -/
def openingsPointsUptoRow : OpenClaim := { program := "ytfalmbcnbomaoaa", sum := "7dcccac0bc95e40432e56a9f0b7be1f379731b875a6347d9fd95573ee64fe665", func := "sewershed/sewershedlaw32.OpeningsPoints", spec := "openingsPoints", unfollowed := true, recurses := true, named := ["math/bits.divideError", "math/bits.overflowError"], apart := false, narrowed := true }
def OpeningsPointsUptoSaid : Prop := openingsPointsUptoRow.holds Try.pinned (OpenSpec.upto openingsPointsSpec)

end Rows
end Go.Proofs.Ytfalmbcnbomaoaa
