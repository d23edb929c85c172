/-
  No cell of these rows narrows 'for every input' (looked for: loops, veiled, ifaces, maps, wideKeys, modest, calm, conditions, laid).
  DERIVED. THE GIVEN ROWS OF THIS SEAT. 6 by the template 'for every input the law returns true; each argument reads behind the call as it read before'; 0 by the template 'total and deterministic' (their statements: YtchnfahgmceohaaTotals.lean).
  GIVEN WITH THE SEED: the statements are not yours to turn. If you find one false, say at which input.
  Laid BY PROGRAM, IN A SANDBOX (cutbox-rows.mjs): the forced cells as the released guide's own fill.sh prints them over the translation 84dd9665fd6f94ce… (all of the seat's roots in one cut). By AI agents, Wed Nov 11 2026. No macro, syntax, notation, axiom, sorry.
-/
import Derived.Test.YtchnfahgmceohaaChecked
import GoSem.Claim
import GoSem.ClaimJoined
import GoSem.ClaimMapViews
import Derived.JoinedTies
import Derived.KernelRfl
namespace Go.Proofs.Ytchnfahgmceohaa
/- THE CELL 'sum', in the pinned program and in every row, IS THE sha256 OF THE DUMP (.gsa) THAT YtchnfahgmceohaaProg.lean LOADS. Nothing in Lean hashes anything: it is a label: what it is worth is what the hold of that sum in a sandbox is worth. -/
noncomputable def Try.pinned : Pinned := { name := "ytchnfahgmceohaa", sum := "84dd9665fd6f94ce332fbb062d9a57841c37d1bcb3020917bb5f68e1df6a2dff", checked := Try.checked }
namespace Rows
def none {H : Type} : Left H := { results := [], args := [] }

/-- 'sewershedlaw18.ArchiveEncodes': WHATEVER THE INPUT: true; the input reads as it did. -/
def archiveEncodesSpec : ChangeSpec := { name := "archiveEncodes", fn := fun _ => fun
  | [d] => { results := [.lit (.bool true)], args := [d] }
  | _ => none }
def archiveEncodesRow : OpenClaim := { program := "ytchnfahgmceohaa", sum := "84dd9665fd6f94ce332fbb062d9a57841c37d1bcb3020917bb5f68e1df6a2dff", func := "sewershed/sewershedlaw18.ArchiveEncodes", spec := "archiveEncodes", unfollowed := true, recurses := true, apart := false }
def ArchiveEncodesSaid : Prop := archiveEncodesRow.holds Try.pinned (OpenSpec.ofChange archiveEncodesSpec)

/-- ITS FALSE NEIGHBOUR: 'it returns false'. Refute it at one input. -/
def archiveEncodesWrong : ChangeSpec := { name := "archiveEncodes", fn := fun _ => fun
  | [d] => { results := [.lit (.bool false)], args := [d] }
  | _ => none }
def ArchiveEncodesWrongFalsely : Prop := archiveEncodesRow.holds Try.pinned (OpenSpec.ofChange archiveEncodesWrong)

/-- 'sewershedlaw18.ArchiveCuts': WHATEVER THE INPUT: true; the input reads as it did. -/
def archiveCutsSpec : ChangeSpec := { name := "archiveCuts", fn := fun _ => fun
  | [d1, d2] => { results := [.lit (.bool true)], args := [d1, d2] }
  | _ => none }
def archiveCutsRow : OpenClaim := { program := "ytchnfahgmceohaa", sum := "84dd9665fd6f94ce332fbb062d9a57841c37d1bcb3020917bb5f68e1df6a2dff", func := "sewershed/sewershedlaw18.ArchiveCuts", spec := "archiveCuts", unfollowed := true, recurses := true, apart := false }
def ArchiveCutsSaid : Prop := archiveCutsRow.holds Try.pinned (OpenSpec.ofChange archiveCutsSpec)

/-- ITS FALSE NEIGHBOUR: 'it returns false'. Refute it at one input. -/
def archiveCutsWrong : ChangeSpec := { name := "archiveCuts", fn := fun _ => fun
  | [d1, d2] => { results := [.lit (.bool false)], args := [d1, d2] }
  | _ => none }
def ArchiveCutsWrongFalsely : Prop := archiveCutsRow.holds Try.pinned (OpenSpec.ofChange archiveCutsWrong)

/-- 'sewershedlaw18.ArchiveSmall': WHATEVER THE INPUT: true; the input reads as it did. -/
def archiveSmallSpec : ChangeSpec := { name := "archiveSmall", fn := fun _ => fun
  | [d1, d2, d3, d4] => { results := [.lit (.bool true)], args := [d1, d2, d3, d4] }
  | _ => none }
def archiveSmallRow : OpenClaim := { program := "ytchnfahgmceohaa", sum := "84dd9665fd6f94ce332fbb062d9a57841c37d1bcb3020917bb5f68e1df6a2dff", func := "sewershed/sewershedlaw18.ArchiveSmall", spec := "archiveSmall", unfollowed := true, recurses := true, apart := false }
def ArchiveSmallSaid : Prop := archiveSmallRow.holds Try.pinned (OpenSpec.ofChange archiveSmallSpec)

/-- ITS FALSE NEIGHBOUR: 'it returns false'. Refute it at one input. -/
def archiveSmallWrong : ChangeSpec := { name := "archiveSmall", fn := fun _ => fun
  | [d1, d2, d3, d4] => { results := [.lit (.bool false)], args := [d1, d2, d3, d4] }
  | _ => none }
def ArchiveSmallWrongFalsely : Prop := archiveSmallRow.holds Try.pinned (OpenSpec.ofChange archiveSmallWrong)

/-- 'sewershedlaw18.ArchiveFinds': WHATEVER THE INPUT: true; the input reads as it did. -/
def archiveFindsSpec : ChangeSpec := { name := "archiveFinds", fn := fun _ => fun
  | [d1, d2, d3] => { results := [.lit (.bool true)], args := [d1, d2, d3] }
  | _ => none }
def archiveFindsRow : OpenClaim := { program := "ytchnfahgmceohaa", sum := "84dd9665fd6f94ce332fbb062d9a57841c37d1bcb3020917bb5f68e1df6a2dff", func := "sewershed/sewershedlaw18.ArchiveFinds", spec := "archiveFinds", unfollowed := true, recurses := true, apart := false }
def ArchiveFindsSaid : Prop := archiveFindsRow.holds Try.pinned (OpenSpec.ofChange archiveFindsSpec)

/-- ITS FALSE NEIGHBOUR: 'it returns false'. Refute it at one input. -/
def archiveFindsWrong : ChangeSpec := { name := "archiveFinds", fn := fun _ => fun
  | [d1, d2, d3] => { results := [.lit (.bool false)], args := [d1, d2, d3] }
  | _ => none }
def ArchiveFindsWrongFalsely : Prop := archiveFindsRow.holds Try.pinned (OpenSpec.ofChange archiveFindsWrong)

/-- 'sewershedlaw18.ArchiveReads': WHATEVER THE INPUT: true; the input reads as it did. -/
def archiveReadsSpec : ChangeSpec := { name := "archiveReads", fn := fun _ => fun
  | [d1, d2, d3, d4, d5] => { results := [.lit (.bool true)], args := [d1, d2, d3, d4, d5] }
  | _ => none }
def archiveReadsRow : OpenClaim := { program := "ytchnfahgmceohaa", sum := "84dd9665fd6f94ce332fbb062d9a57841c37d1bcb3020917bb5f68e1df6a2dff", func := "sewershed/sewershedlaw18.ArchiveReads", spec := "archiveReads", unfollowed := true, recurses := true, apart := false }
def ArchiveReadsSaid : Prop := archiveReadsRow.holds Try.pinned (OpenSpec.ofChange archiveReadsSpec)

/-- ITS FALSE NEIGHBOUR: 'it returns false'. Refute it at one input. -/
def archiveReadsWrong : ChangeSpec := { name := "archiveReads", fn := fun _ => fun
  | [d1, d2, d3, d4, d5] => { results := [.lit (.bool false)], args := [d1, d2, d3, d4, d5] }
  | _ => none }
def ArchiveReadsWrongFalsely : Prop := archiveReadsRow.holds Try.pinned (OpenSpec.ofChange archiveReadsWrong)

/-- 'sewershedlaw18.ArchiveBack': WHATEVER THE INPUT: true; the input reads as it did. -/
def archiveBackSpec : ChangeSpec := { name := "archiveBack", fn := fun _ => fun
  | [d1, d2, d3, d4] => { results := [.lit (.bool true)], args := [d1, d2, d3, d4] }
  | _ => none }
def archiveBackRow : OpenClaim := { program := "ytchnfahgmceohaa", sum := "84dd9665fd6f94ce332fbb062d9a57841c37d1bcb3020917bb5f68e1df6a2dff", func := "sewershed/sewershedlaw18.ArchiveBack", spec := "archiveBack", unfollowed := true, recurses := true, apart := false }
def ArchiveBackSaid : Prop := archiveBackRow.holds Try.pinned (OpenSpec.ofChange archiveBackSpec)

/-- ITS FALSE NEIGHBOUR: 'it returns false'. Refute it at one input. -/
def archiveBackWrong : ChangeSpec := { name := "archiveBack", fn := fun _ => fun
  | [d1, d2, d3, d4] => { results := [.lit (.bool false)], args := [d1, d2, d3, d4] }
  | _ => none }
def ArchiveBackWrongFalsely : Prop := archiveBackRow.holds Try.pinned (OpenSpec.ofChange archiveBackWrong)

/- THE SECOND FORM. 'bulk': how many values and letters a reading holds, each counted each time it is reached (what is shared counts as often as it is met; a slice's spare places count too). A statement '..UptoSaid' is the law's where the arguments, and the package variables that the reading takes, are together of bulk at most 1048576: NARROWER than '..Said'. Prove '..Said' where nothing that the law and all that it calls make is longer than what came in: it says more and counts as full. Else prove '..UptoSaid'. A law counts once. -/
mutual
def uptoBulk {H : Type} : DataW H → Nat
  | .lit (.string bytes) => bytes.length + 1
  | .lit _ => 1
  | .nil => 1
  | .ptr d => uptoBulk d + 1
  | .slice elems spare => uptoBulkAll elems + uptoBulkAll spare + 1
  | .agg parts => uptoBulkAll parts + 1
  | .iface _ d => uptoBulk d + 1
  | .map entries => uptoBulkEntries entries + 1
  | .held _ => 1
def uptoBulkAll {H : Type} : List (DataW H) → Nat
  | [] => 0
  | d :: r => uptoBulk d + uptoBulkAll r
def uptoBulkEntries {H : Type} : List (Lit × DataW H) → Nat
  | [] => 0
  | x :: r => uptoBulkEntry x + uptoBulkEntries r
def uptoBulkEntry {H : Type} : Lit × DataW H → Nat
  | (.string bytes, d) => bytes.length + uptoBulk d + 1
  | (_, d) => uptoBulk d + 1
 end
def uptoSmall : (H : Type) → List (DataW H) → Bool := fun _ ds => decide (uptoBulkAll ds ≤ 1048576)
def OpenSpec.upto (s : _root_.Go.ChangeSpec) : _root_.Go.OpenSpec := { _root_.Go.OpenSpec.ofChange s with cond := some uptoSmall }

/-- 'sewershedlaw18.ArchiveEncodes', WHERE WHAT IT READS IS OF BULK AT MOST 1048576: true; the input reads as it did. -/
def archiveEncodesUptoRow : OpenClaim := { program := "ytchnfahgmceohaa", sum := "84dd9665fd6f94ce332fbb062d9a57841c37d1bcb3020917bb5f68e1df6a2dff", func := "sewershed/sewershedlaw18.ArchiveEncodes", spec := "archiveEncodes", unfollowed := true, recurses := true, apart := false, narrowed := true }
def ArchiveEncodesUptoSaid : Prop := archiveEncodesUptoRow.holds Try.pinned (OpenSpec.upto archiveEncodesSpec)

/-- 'sewershedlaw18.ArchiveCuts', WHERE WHAT IT READS IS OF BULK AT MOST 1048576: true; the input reads as it did. -/
def archiveCutsUptoRow : OpenClaim := { program := "ytchnfahgmceohaa", sum := "84dd9665fd6f94ce332fbb062d9a57841c37d1bcb3020917bb5f68e1df6a2dff", func := "sewershed/sewershedlaw18.ArchiveCuts", spec := "archiveCuts", unfollowed := true, recurses := true, apart := false, narrowed := true }
def ArchiveCutsUptoSaid : Prop := archiveCutsUptoRow.holds Try.pinned (OpenSpec.upto archiveCutsSpec)

/-- 'sewershedlaw18.ArchiveSmall', WHERE WHAT IT READS IS OF BULK AT MOST 1048576: true; the input reads as it did. -/
def archiveSmallUptoRow : OpenClaim := { program := "ytchnfahgmceohaa", sum := "84dd9665fd6f94ce332fbb062d9a57841c37d1bcb3020917bb5f68e1df6a2dff", func := "sewershed/sewershedlaw18.ArchiveSmall", spec := "archiveSmall", unfollowed := true, recurses := true, apart := false, narrowed := true }
def ArchiveSmallUptoSaid : Prop := archiveSmallUptoRow.holds Try.pinned (OpenSpec.upto archiveSmallSpec)

/-- 'sewershedlaw18.ArchiveFinds', WHERE WHAT IT READS IS OF BULK AT MOST 1048576: true; the input reads as it did. -/
def archiveFindsUptoRow : OpenClaim := { program := "ytchnfahgmceohaa", sum := "84dd9665fd6f94ce332fbb062d9a57841c37d1bcb3020917bb5f68e1df6a2dff", func := "sewershed/sewershedlaw18.ArchiveFinds", spec := "archiveFinds", unfollowed := true, recurses := true, apart := false, narrowed := true }
def ArchiveFindsUptoSaid : Prop := archiveFindsUptoRow.holds Try.pinned (OpenSpec.upto archiveFindsSpec)

/-- 'sewershedlaw18.ArchiveReads', WHERE WHAT IT READS IS OF BULK AT MOST 1048576: true; the input reads as it did. -/
def archiveReadsUptoRow : OpenClaim := { program := "ytchnfahgmceohaa", sum := "84dd9665fd6f94ce332fbb062d9a57841c37d1bcb3020917bb5f68e1df6a2dff", func := "sewershed/sewershedlaw18.ArchiveReads", spec := "archiveReads", unfollowed := true, recurses := true, apart := false, narrowed := true }
def ArchiveReadsUptoSaid : Prop := archiveReadsUptoRow.holds Try.pinned (OpenSpec.upto archiveReadsSpec)

/-- 'sewershedlaw18.ArchiveBack', WHERE WHAT IT READS IS OF BULK AT MOST 1048576: true; the input reads as it did. -/
def archiveBackUptoRow : OpenClaim := { program := "ytchnfahgmceohaa", sum := "84dd9665fd6f94ce332fbb062d9a57841c37d1bcb3020917bb5f68e1df6a2dff", func := "sewershed/sewershedlaw18.ArchiveBack", spec := "archiveBack", unfollowed := true, recurses := true, apart := false, narrowed := true }
def ArchiveBackUptoSaid : Prop := archiveBackUptoRow.holds Try.pinned (OpenSpec.upto archiveBackSpec)

end Rows
end Go.Proofs.Ytchnfahgmceohaa
