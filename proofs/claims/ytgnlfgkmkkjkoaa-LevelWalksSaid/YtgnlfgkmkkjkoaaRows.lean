/-
  No cell of these rows narrows 'for every input' (looked for: loops, veiled, ifaces, maps, wideKeys, modest, calm, conditions, laid).
  DERIVED. THE GIVEN ROWS OF THIS SEAT. 14 by the template 'for every input the law returns true; each argument reads behind the call as it read before'; 0 by the template 'total and deterministic' (their statements: YtgnlfgkmkkjkoaaTotals.lean).
  GIVEN WITH THE SEED: the statements are not yours to turn. If you find one false, say at which input.
  Laid BY PROGRAM, IN A SANDBOX (cutbox-rows.mjs): the forced cells as the released guide's own fill.sh prints them over the translation 9a08e4154dffb4f0… (all of the seat's roots in one cut). By AI agents, Wed Nov 11 2026. No macro, syntax, notation, axiom, sorry.
-/
import Derived.Test.YtgnlfgkmkkjkoaaChecked
import GoSem.Claim
import GoSem.ClaimJoined
import GoSem.ClaimMapViews
import Derived.JoinedTies
import Derived.KernelRfl
namespace Go.Proofs.Ytgnlfgkmkkjkoaa
/- THE CELL 'sum', in the pinned program and in every row, IS THE sha256 OF THE DUMP (.gsa) THAT YtgnlfgkmkkjkoaaProg.lean LOADS. Nothing in Lean hashes anything: it is a label: what it is worth is what the hold of that sum in a sandbox is worth. -/
noncomputable def Try.pinned : Pinned := { name := "ytgnlfgkmkkjkoaa", sum := "9a08e4154dffb4f0373ff7312da1d86e875e3cccd3e05fd02d2626d896f5bd92", checked := Try.checked }
namespace Rows
def none {H : Type} : Left H := { results := [], args := [] }

/-- 'turbarylaw01.LevelErrors': WHATEVER THE INPUT: true; the input reads as it did. -/
def levelErrorsSpec : ChangeSpec := { name := "levelErrors", fn := fun _ => fun
  | [d1, d2, d3] => { results := [.lit (.bool true)], args := [d1, d2, d3] }
  | _ => none }
def levelErrorsRow : OpenClaim := { program := "ytgnlfgkmkkjkoaa", sum := "9a08e4154dffb4f0373ff7312da1d86e875e3cccd3e05fd02d2626d896f5bd92", func := "turbary/turbarylaw01.LevelErrors", spec := "levelErrors", unfollowed := true, recurses := true, apart := false }
def LevelErrorsSaid : Prop := levelErrorsRow.holds Try.pinned (OpenSpec.ofChange levelErrorsSpec)

/-- ITS FALSE NEIGHBOUR: 'it returns false'. Refute it at one input. -/
def levelErrorsWrong : ChangeSpec := { name := "levelErrors", fn := fun _ => fun
  | [d1, d2, d3] => { results := [.lit (.bool false)], args := [d1, d2, d3] }
  | _ => none }
def LevelErrorsWrongFalsely : Prop := levelErrorsRow.holds Try.pinned (OpenSpec.ofChange levelErrorsWrong)

/-- 'turbarylaw01.LevelDetours': WHATEVER THE INPUT: true; the input reads as it did. -/
def levelDetoursSpec : ChangeSpec := { name := "levelDetours", fn := fun _ => fun
  | [d1, d2] => { results := [.lit (.bool true)], args := [d1, d2] }
  | _ => none }
def levelDetoursRow : OpenClaim := { program := "ytgnlfgkmkkjkoaa", sum := "9a08e4154dffb4f0373ff7312da1d86e875e3cccd3e05fd02d2626d896f5bd92", func := "turbary/turbarylaw01.LevelDetours", spec := "levelDetours", unfollowed := true, recurses := true, apart := false }
def LevelDetoursSaid : Prop := levelDetoursRow.holds Try.pinned (OpenSpec.ofChange levelDetoursSpec)

/-- ITS FALSE NEIGHBOUR: 'it returns false'. Refute it at one input. -/
def levelDetoursWrong : ChangeSpec := { name := "levelDetours", fn := fun _ => fun
  | [d1, d2] => { results := [.lit (.bool false)], args := [d1, d2] }
  | _ => none }
def LevelDetoursWrongFalsely : Prop := levelDetoursRow.holds Try.pinned (OpenSpec.ofChange levelDetoursWrong)

/-- 'turbarylaw01.LevelParts': WHATEVER THE INPUT: true; the input reads as it did. -/
def levelPartsSpec : ChangeSpec := { name := "levelParts", fn := fun _ => fun
  | [d] => { results := [.lit (.bool true)], args := [d] }
  | _ => none }
def levelPartsRow : OpenClaim := { program := "ytgnlfgkmkkjkoaa", sum := "9a08e4154dffb4f0373ff7312da1d86e875e3cccd3e05fd02d2626d896f5bd92", func := "turbary/turbarylaw01.LevelParts", spec := "levelParts", unfollowed := true, recurses := true, apart := false }
def LevelPartsSaid : Prop := levelPartsRow.holds Try.pinned (OpenSpec.ofChange levelPartsSpec)

/-- ITS FALSE NEIGHBOUR: 'it returns false'. Refute it at one input. -/
def levelPartsWrong : ChangeSpec := { name := "levelParts", fn := fun _ => fun
  | [d] => { results := [.lit (.bool false)], args := [d] }
  | _ => none }
def LevelPartsWrongFalsely : Prop := levelPartsRow.holds Try.pinned (OpenSpec.ofChange levelPartsWrong)

/-- 'turbarylaw01.LevelMore': WHATEVER THE INPUT: true; the input reads as it did. -/
def levelMoreSpec : ChangeSpec := { name := "levelMore", fn := fun _ => fun
  | [d1, d2, d3] => { results := [.lit (.bool true)], args := [d1, d2, d3] }
  | _ => none }
def levelMoreRow : OpenClaim := { program := "ytgnlfgkmkkjkoaa", sum := "9a08e4154dffb4f0373ff7312da1d86e875e3cccd3e05fd02d2626d896f5bd92", func := "turbary/turbarylaw01.LevelMore", spec := "levelMore", unfollowed := true, recurses := true, apart := false }
def LevelMoreSaid : Prop := levelMoreRow.holds Try.pinned (OpenSpec.ofChange levelMoreSpec)

/-- ITS FALSE NEIGHBOUR: 'it returns false'. Refute it at one input. -/
def levelMoreWrong : ChangeSpec := { name := "levelMore", fn := fun _ => fun
  | [d1, d2, d3] => { results := [.lit (.bool false)], args := [d1, d2, d3] }
  | _ => none }
def LevelMoreWrongFalsely : Prop := levelMoreRow.holds Try.pinned (OpenSpec.ofChange levelMoreWrong)

/-- 'turbarylaw01.LevelSums': WHATEVER THE INPUT: true; the input reads as it did. -/
def levelSumsSpec : ChangeSpec := { name := "levelSums", fn := fun _ => fun
  | [d] => { results := [.lit (.bool true)], args := [d] }
  | _ => none }
def levelSumsRow : OpenClaim := { program := "ytgnlfgkmkkjkoaa", sum := "9a08e4154dffb4f0373ff7312da1d86e875e3cccd3e05fd02d2626d896f5bd92", func := "turbary/turbarylaw01.LevelSums", spec := "levelSums", unfollowed := true, recurses := true, apart := false }
def LevelSumsSaid : Prop := levelSumsRow.holds Try.pinned (OpenSpec.ofChange levelSumsSpec)

/-- ITS FALSE NEIGHBOUR: 'it returns false'. Refute it at one input. -/
def levelSumsWrong : ChangeSpec := { name := "levelSums", fn := fun _ => fun
  | [d] => { results := [.lit (.bool false)], args := [d] }
  | _ => none }
def LevelSumsWrongFalsely : Prop := levelSumsRow.holds Try.pinned (OpenSpec.ofChange levelSumsWrong)

/-- 'turbarylaw01.LevelBest': WHATEVER THE INPUT: true; the input reads as it did. -/
def levelBestSpec : ChangeSpec := { name := "levelBest", fn := fun _ => fun
  | [d] => { results := [.lit (.bool true)], args := [d] }
  | _ => none }
def levelBestRow : OpenClaim := { program := "ytgnlfgkmkkjkoaa", sum := "9a08e4154dffb4f0373ff7312da1d86e875e3cccd3e05fd02d2626d896f5bd92", func := "turbary/turbarylaw01.LevelBest", spec := "levelBest", unfollowed := true, recurses := true, apart := false }
def LevelBestSaid : Prop := levelBestRow.holds Try.pinned (OpenSpec.ofChange levelBestSpec)

/-- ITS FALSE NEIGHBOUR: 'it returns false'. Refute it at one input. -/
def levelBestWrong : ChangeSpec := { name := "levelBest", fn := fun _ => fun
  | [d] => { results := [.lit (.bool false)], args := [d] }
  | _ => none }
def LevelBestWrongFalsely : Prop := levelBestRow.holds Try.pinned (OpenSpec.ofChange levelBestWrong)

/-- 'turbarylaw01.LevelChecks': WHATEVER THE INPUT: true; the input reads as it did. -/
def levelChecksSpec : ChangeSpec := { name := "levelChecks", fn := fun _ => fun
  | [d1, d2] => { results := [.lit (.bool true)], args := [d1, d2] }
  | _ => none }
def levelChecksRow : OpenClaim := { program := "ytgnlfgkmkkjkoaa", sum := "9a08e4154dffb4f0373ff7312da1d86e875e3cccd3e05fd02d2626d896f5bd92", func := "turbary/turbarylaw01.LevelChecks", spec := "levelChecks", unfollowed := true, recurses := true, apart := false }
def LevelChecksSaid : Prop := levelChecksRow.holds Try.pinned (OpenSpec.ofChange levelChecksSpec)

/-- ITS FALSE NEIGHBOUR: 'it returns false'. Refute it at one input. -/
def levelChecksWrong : ChangeSpec := { name := "levelChecks", fn := fun _ => fun
  | [d1, d2] => { results := [.lit (.bool false)], args := [d1, d2] }
  | _ => none }
def LevelChecksWrongFalsely : Prop := levelChecksRow.holds Try.pinned (OpenSpec.ofChange levelChecksWrong)

/-- 'turbarylaw01.LevelProves': WHATEVER THE INPUT: true; the input reads as it did. -/
def levelProvesSpec : ChangeSpec := { name := "levelProves", fn := fun _ => fun
  | [d1, d2, d3] => { results := [.lit (.bool true)], args := [d1, d2, d3] }
  | _ => none }
def levelProvesRow : OpenClaim := { program := "ytgnlfgkmkkjkoaa", sum := "9a08e4154dffb4f0373ff7312da1d86e875e3cccd3e05fd02d2626d896f5bd92", func := "turbary/turbarylaw01.LevelProves", spec := "levelProves", unfollowed := true, recurses := true, apart := false }
def LevelProvesSaid : Prop := levelProvesRow.holds Try.pinned (OpenSpec.ofChange levelProvesSpec)

/-- ITS FALSE NEIGHBOUR: 'it returns false'. Refute it at one input. -/
def levelProvesWrong : ChangeSpec := { name := "levelProves", fn := fun _ => fun
  | [d1, d2, d3] => { results := [.lit (.bool false)], args := [d1, d2, d3] }
  | _ => none }
def LevelProvesWrongFalsely : Prop := levelProvesRow.holds Try.pinned (OpenSpec.ofChange levelProvesWrong)

/-- 'turbarylaw01.LevelShares': WHATEVER THE INPUT: true; the input reads as it did. -/
def levelSharesSpec : ChangeSpec := { name := "levelShares", fn := fun _ => fun
  | [d1, d2] => { results := [.lit (.bool true)], args := [d1, d2] }
  | _ => none }
def levelSharesRow : OpenClaim := { program := "ytgnlfgkmkkjkoaa", sum := "9a08e4154dffb4f0373ff7312da1d86e875e3cccd3e05fd02d2626d896f5bd92", func := "turbary/turbarylaw01.LevelShares", spec := "levelShares", unfollowed := true, recurses := true, apart := false }
def LevelSharesSaid : Prop := levelSharesRow.holds Try.pinned (OpenSpec.ofChange levelSharesSpec)

/-- ITS FALSE NEIGHBOUR: 'it returns false'. Refute it at one input. -/
def levelSharesWrong : ChangeSpec := { name := "levelShares", fn := fun _ => fun
  | [d1, d2] => { results := [.lit (.bool false)], args := [d1, d2] }
  | _ => none }
def LevelSharesWrongFalsely : Prop := levelSharesRow.holds Try.pinned (OpenSpec.ofChange levelSharesWrong)

/-- 'turbarylaw01.LevelChanges': WHATEVER THE INPUT: true; the input reads as it did. -/
def levelChangesSpec : ChangeSpec := { name := "levelChanges", fn := fun _ => fun
  | [d1, d2] => { results := [.lit (.bool true)], args := [d1, d2] }
  | _ => none }
def levelChangesRow : OpenClaim := { program := "ytgnlfgkmkkjkoaa", sum := "9a08e4154dffb4f0373ff7312da1d86e875e3cccd3e05fd02d2626d896f5bd92", func := "turbary/turbarylaw01.LevelChanges", spec := "levelChanges", unfollowed := true, recurses := true, apart := false }
def LevelChangesSaid : Prop := levelChangesRow.holds Try.pinned (OpenSpec.ofChange levelChangesSpec)

/-- ITS FALSE NEIGHBOUR: 'it returns false'. Refute it at one input. -/
def levelChangesWrong : ChangeSpec := { name := "levelChanges", fn := fun _ => fun
  | [d1, d2] => { results := [.lit (.bool false)], args := [d1, d2] }
  | _ => none }
def LevelChangesWrongFalsely : Prop := levelChangesRow.holds Try.pinned (OpenSpec.ofChange levelChangesWrong)

/-- 'turbarylaw01.LevelTrees': WHATEVER THE INPUT: true; the input reads as it did. -/
def levelTreesSpec : ChangeSpec := { name := "levelTrees", fn := fun _ => fun
  | [d] => { results := [.lit (.bool true)], args := [d] }
  | _ => none }
def levelTreesRow : OpenClaim := { program := "ytgnlfgkmkkjkoaa", sum := "9a08e4154dffb4f0373ff7312da1d86e875e3cccd3e05fd02d2626d896f5bd92", func := "turbary/turbarylaw01.LevelTrees", spec := "levelTrees", unfollowed := true, recurses := true, apart := false }
def LevelTreesSaid : Prop := levelTreesRow.holds Try.pinned (OpenSpec.ofChange levelTreesSpec)

/-- ITS FALSE NEIGHBOUR: 'it returns false'. Refute it at one input. -/
def levelTreesWrong : ChangeSpec := { name := "levelTrees", fn := fun _ => fun
  | [d] => { results := [.lit (.bool false)], args := [d] }
  | _ => none }
def LevelTreesWrongFalsely : Prop := levelTreesRow.holds Try.pinned (OpenSpec.ofChange levelTreesWrong)

/-- 'turbarylaw01.LevelRaises': WHATEVER THE INPUT: true; the input reads as it did. -/
def levelRaisesSpec : ChangeSpec := { name := "levelRaises", fn := fun _ => fun
  | [d1, d2, d3] => { results := [.lit (.bool true)], args := [d1, d2, d3] }
  | _ => none }
def levelRaisesRow : OpenClaim := { program := "ytgnlfgkmkkjkoaa", sum := "9a08e4154dffb4f0373ff7312da1d86e875e3cccd3e05fd02d2626d896f5bd92", func := "turbary/turbarylaw01.LevelRaises", spec := "levelRaises", unfollowed := true, recurses := true, apart := false }
def LevelRaisesSaid : Prop := levelRaisesRow.holds Try.pinned (OpenSpec.ofChange levelRaisesSpec)

/-- ITS FALSE NEIGHBOUR: 'it returns false'. Refute it at one input. -/
def levelRaisesWrong : ChangeSpec := { name := "levelRaises", fn := fun _ => fun
  | [d1, d2, d3] => { results := [.lit (.bool false)], args := [d1, d2, d3] }
  | _ => none }
def LevelRaisesWrongFalsely : Prop := levelRaisesRow.holds Try.pinned (OpenSpec.ofChange levelRaisesWrong)

/-- 'turbarylaw01.LevelWalks': WHATEVER THE INPUT: true; the input reads as it did. -/
def levelWalksSpec : ChangeSpec := { name := "levelWalks", fn := fun _ => fun
  | [d1, d2, d3] => { results := [.lit (.bool true)], args := [d1, d2, d3] }
  | _ => none }
def levelWalksRow : OpenClaim := { program := "ytgnlfgkmkkjkoaa", sum := "9a08e4154dffb4f0373ff7312da1d86e875e3cccd3e05fd02d2626d896f5bd92", func := "turbary/turbarylaw01.LevelWalks", spec := "levelWalks", unfollowed := true, recurses := true, apart := false }
def LevelWalksSaid : Prop := levelWalksRow.holds Try.pinned (OpenSpec.ofChange levelWalksSpec)

/-- ITS FALSE NEIGHBOUR: 'it returns false'. Refute it at one input. -/
def levelWalksWrong : ChangeSpec := { name := "levelWalks", fn := fun _ => fun
  | [d1, d2, d3] => { results := [.lit (.bool false)], args := [d1, d2, d3] }
  | _ => none }
def LevelWalksWrongFalsely : Prop := levelWalksRow.holds Try.pinned (OpenSpec.ofChange levelWalksWrong)

/-- 'turbarytop.TopHeights': WHATEVER THE INPUT: true; the input reads as it did. -/
def topHeightsSpec : ChangeSpec := { name := "topHeights", fn := fun _ => fun
  | [d1, d2, d3] => { results := [.lit (.bool true)], args := [d1, d2, d3] }
  | _ => none }
def topHeightsRow : OpenClaim := { program := "ytgnlfgkmkkjkoaa", sum := "9a08e4154dffb4f0373ff7312da1d86e875e3cccd3e05fd02d2626d896f5bd92", func := "turbary/turbarytop.TopHeights", spec := "topHeights", unfollowed := true, recurses := true, apart := false }
def TopHeightsSaid : Prop := topHeightsRow.holds Try.pinned (OpenSpec.ofChange topHeightsSpec)

/-- ITS FALSE NEIGHBOUR: 'it returns false'. Refute it at one input. -/
def topHeightsWrong : ChangeSpec := { name := "topHeights", fn := fun _ => fun
  | [d1, d2, d3] => { results := [.lit (.bool false)], args := [d1, d2, d3] }
  | _ => none }
def TopHeightsWrongFalsely : Prop := topHeightsRow.holds Try.pinned (OpenSpec.ofChange topHeightsWrong)

/- THE SECOND FORM. 'bulk': how many values and letters a reading holds, each counted each time it is reached (what is shared counts as often as it is met; a slice's spare places count too). A statement '..UptoSaid' is the law's where the arguments, and the package variables that the reading takes, are together of bulk at most 1048576: NARROWER than '..Said'. Prove '..Said' where nothing that the law and all that it calls make is longer than what came in: it says more and counts as full. Else prove '..UptoSaid'. A law counts once. -/
mutual
def uptoBulk {H : Type} : DataW H → Nat
  | .lit (.string bytes) => bytes.length + 1
  | .lit _ => 1
  | .nil => 1
  | .ptr d => uptoBulk d + 1
  | .slice elems spare => uptoBulkAll elems + uptoBulkAll spare + 1
  | .agg parts => uptoBulkAll parts + 1
  | .iface _ d => uptoBulk d + 1
  | .map entries => uptoBulkEntries entries + 1
  | .held _ => 1
def uptoBulkAll {H : Type} : List (DataW H) → Nat
  | [] => 0
  | d :: r => uptoBulk d + uptoBulkAll r
def uptoBulkEntries {H : Type} : List (Lit × DataW H) → Nat
  | [] => 0
  | x :: r => uptoBulkEntry x + uptoBulkEntries r
def uptoBulkEntry {H : Type} : Lit × DataW H → Nat
  | (.string bytes, d) => bytes.length + uptoBulk d + 1
  | (_, d) => uptoBulk d + 1
 end
def uptoSmall : (H : Type) → List (DataW H) → Bool := fun _ ds => decide (uptoBulkAll ds ≤ 1048576)
def OpenSpec.upto (s : _root_.Go.ChangeSpec) : _root_.Go.OpenSpec := { _root_.Go.OpenSpec.ofChange s with cond := some uptoSmall }

/-- 'turbarylaw01.LevelErrors', WHERE WHAT IT READS IS OF BULK AT MOST 1048576: true; the input reads as it did. -/
def levelErrorsUptoRow : OpenClaim := { program := "ytgnlfgkmkkjkoaa", sum := "9a08e4154dffb4f0373ff7312da1d86e875e3cccd3e05fd02d2626d896f5bd92", func := "turbary/turbarylaw01.LevelErrors", spec := "levelErrors", unfollowed := true, recurses := true, apart := false, narrowed := true }
def LevelErrorsUptoSaid : Prop := levelErrorsUptoRow.holds Try.pinned (OpenSpec.upto levelErrorsSpec)

/-- 'turbarylaw01.LevelDetours', WHERE WHAT IT READS IS OF BULK AT MOST 1048576: true; the input reads as it did. -/
def levelDetoursUptoRow : OpenClaim := { program := "ytgnlfgkmkkjkoaa", sum := "9a08e4154dffb4f0373ff7312da1d86e875e3cccd3e05fd02d2626d896f5bd92", func := "turbary/turbarylaw01.LevelDetours", spec := "levelDetours", unfollowed := true, recurses := true, apart := false, narrowed := true }
def LevelDetoursUptoSaid : Prop := levelDetoursUptoRow.holds Try.pinned (OpenSpec.upto levelDetoursSpec)

/-- 'turbarylaw01.LevelParts', WHERE WHAT IT READS IS OF BULK AT MOST 1048576: true; the input reads as it did. -/
def levelPartsUptoRow : OpenClaim := { program := "ytgnlfgkmkkjkoaa", sum := "9a08e4154dffb4f0373ff7312da1d86e875e3cccd3e05fd02d2626d896f5bd92", func := "turbary/turbarylaw01.LevelParts", spec := "levelParts", unfollowed := true, recurses := true, apart := false, narrowed := true }
def LevelPartsUptoSaid : Prop := levelPartsUptoRow.holds Try.pinned (OpenSpec.upto levelPartsSpec)

/-- 'turbarylaw01.LevelMore', WHERE WHAT IT READS IS OF BULK AT MOST 1048576: true; the input reads as it did. -/
def levelMoreUptoRow : OpenClaim := { program := "ytgnlfgkmkkjkoaa", sum := "9a08e4154dffb4f0373ff7312da1d86e875e3cccd3e05fd02d2626d896f5bd92", func := "turbary/turbarylaw01.LevelMore", spec := "levelMore", unfollowed := true, recurses := true, apart := false, narrowed := true }
def LevelMoreUptoSaid : Prop := levelMoreUptoRow.holds Try.pinned (OpenSpec.upto levelMoreSpec)

/-- 'turbarylaw01.LevelSums', WHERE WHAT IT READS IS OF BULK AT MOST 1048576: true; the input reads as it did. -/
def levelSumsUptoRow : OpenClaim := { program := "ytgnlfgkmkkjkoaa", sum := "9a08e4154dffb4f0373ff7312da1d86e875e3cccd3e05fd02d2626d896f5bd92", func := "turbary/turbarylaw01.LevelSums", spec := "levelSums", unfollowed := true, recurses := true, apart := false, narrowed := true }
def LevelSumsUptoSaid : Prop := levelSumsUptoRow.holds Try.pinned (OpenSpec.upto levelSumsSpec)

/-- 'turbarylaw01.LevelBest', WHERE WHAT IT READS IS OF BULK AT MOST 1048576: true; the input reads as it did. -/
def levelBestUptoRow : OpenClaim := { program := "ytgnlfgkmkkjkoaa", sum := "9a08e4154dffb4f0373ff7312da1d86e875e3cccd3e05fd02d2626d896f5bd92", func := "turbary/turbarylaw01.LevelBest", spec := "levelBest", unfollowed := true, recurses := true, apart := false, narrowed := true }
def LevelBestUptoSaid : Prop := levelBestUptoRow.holds Try.pinned (OpenSpec.upto levelBestSpec)

/-- 'turbarylaw01.LevelChecks', WHERE WHAT IT READS IS OF BULK AT MOST 1048576: true; the input reads as it did. -/
def levelChecksUptoRow : OpenClaim := { program := "ytgnlfgkmkkjkoaa", sum := "9a08e4154dffb4f0373ff7312da1d86e875e3cccd3e05fd02d2626d896f5bd92", func := "turbary/turbarylaw01.LevelChecks", spec := "levelChecks", unfollowed := true, recurses := true, apart := false, narrowed := true }
def LevelChecksUptoSaid : Prop := levelChecksUptoRow.holds Try.pinned (OpenSpec.upto levelChecksSpec)

/-- 'turbarylaw01.LevelProves', WHERE WHAT IT READS IS OF BULK AT MOST 1048576: true; the input reads as it did. -/
def levelProvesUptoRow : OpenClaim := { program := "ytgnlfgkmkkjkoaa", sum := "9a08e4154dffb4f0373ff7312da1d86e875e3cccd3e05fd02d2626d896f5bd92", func := "turbary/turbarylaw01.LevelProves", spec := "levelProves", unfollowed := true, recurses := true, apart := false, narrowed := true }
def LevelProvesUptoSaid : Prop := levelProvesUptoRow.holds Try.pinned (OpenSpec.upto levelProvesSpec)

/-- 'turbarylaw01.LevelShares', WHERE WHAT IT READS IS OF BULK AT MOST 1048576: true; the input reads as it did. -/
def levelSharesUptoRow : OpenClaim := { program := "ytgnlfgkmkkjkoaa", sum := "9a08e4154dffb4f0373ff7312da1d86e875e3cccd3e05fd02d2626d896f5bd92", func := "turbary/turbarylaw01.LevelShares", spec := "levelShares", unfollowed := true, recurses := true, apart := false, narrowed := true }
def LevelSharesUptoSaid : Prop := levelSharesUptoRow.holds Try.pinned (OpenSpec.upto levelSharesSpec)

/-- 'turbarylaw01.LevelChanges', WHERE WHAT IT READS IS OF BULK AT MOST 1048576: true; the input reads as it did. -/
def levelChangesUptoRow : OpenClaim := { program := "ytgnlfgkmkkjkoaa", sum := "9a08e4154dffb4f0373ff7312da1d86e875e3cccd3e05fd02d2626d896f5bd92", func := "turbary/turbarylaw01.LevelChanges", spec := "levelChanges", unfollowed := true, recurses := true, apart := false, narrowed := true }
def LevelChangesUptoSaid : Prop := levelChangesUptoRow.holds Try.pinned (OpenSpec.upto levelChangesSpec)

/-- 'turbarylaw01.LevelTrees', WHERE WHAT IT READS IS OF BULK AT MOST 1048576: true; the input reads as it did. -/
def levelTreesUptoRow : OpenClaim := { program := "ytgnlfgkmkkjkoaa", sum := "9a08e4154dffb4f0373ff7312da1d86e875e3cccd3e05fd02d2626d896f5bd92", func := "turbary/turbarylaw01.LevelTrees", spec := "levelTrees", unfollowed := true, recurses := true, apart := false, narrowed := true }
def LevelTreesUptoSaid : Prop := levelTreesUptoRow.holds Try.pinned (OpenSpec.upto levelTreesSpec)

/-- 'turbarylaw01.LevelRaises', WHERE WHAT IT READS IS OF BULK AT MOST 1048576: true; the input reads as it did. -/
def levelRaisesUptoRow : OpenClaim := { program := "ytgnlfgkmkkjkoaa", sum := "9a08e4154dffb4f0373ff7312da1d86e875e3cccd3e05fd02d2626d896f5bd92", func := "turbary/turbarylaw01.LevelRaises", spec := "levelRaises", unfollowed := true, recurses := true, apart := false, narrowed := true }
def LevelRaisesUptoSaid : Prop := levelRaisesUptoRow.holds Try.pinned (OpenSpec.upto levelRaisesSpec)

/-- 'turbarylaw01.LevelWalks', WHERE WHAT IT READS IS OF BULK AT MOST 1048576: true; the input reads as it did. -/
def levelWalksUptoRow : OpenClaim := { program := "ytgnlfgkmkkjkoaa", sum := "9a08e4154dffb4f0373ff7312da1d86e875e3cccd3e05fd02d2626d896f5bd92", func := "turbary/turbarylaw01.LevelWalks", spec := "levelWalks", unfollowed := true, recurses := true, apart := false, narrowed := true }
def LevelWalksUptoSaid : Prop := levelWalksUptoRow.holds Try.pinned (OpenSpec.upto levelWalksSpec)

/-- 'turbarytop.TopHeights', WHERE WHAT IT READS IS OF BULK AT MOST 1048576: true; the input reads as it did. -/
def topHeightsUptoRow : OpenClaim := { program := "ytgnlfgkmkkjkoaa", sum := "9a08e4154dffb4f0373ff7312da1d86e875e3cccd3e05fd02d2626d896f5bd92", func := "turbary/turbarytop.TopHeights", spec := "topHeights", unfollowed := true, recurses := true, apart := false, narrowed := true }
def TopHeightsUptoSaid : Prop := topHeightsUptoRow.holds Try.pinned (OpenSpec.upto topHeightsSpec)

end Rows
end Go.Proofs.Ytgnlfgkmkkjkoaa
