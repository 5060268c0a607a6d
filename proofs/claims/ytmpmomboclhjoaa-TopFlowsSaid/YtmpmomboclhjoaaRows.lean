/-
  No cell of these rows narrows 'for every input' (looked for: loops, veiled, ifaces, maps, wideKeys, modest, calm, conditions, laid).
  DERIVED. THE GIVEN ROWS OF THIS SEAT. 13 by the template 'for every input the law returns true; each argument reads behind the call as it read before'; 0 by the template 'total and deterministic' (their statements: YtmpmomboclhjoaaTotals.lean).
  GIVEN WITH THE SEED: the statements are not yours to turn. If you find one false, say at which input.
  Laid BY PROGRAM, IN A SANDBOX (cutbox-rows.mjs): the forced cells as the released guide's own fill.sh prints them over the translation c8ffccc8cca7f885… (all of the seat's roots in one cut). By AI agents, Wed Nov 11 2026. No macro, syntax, notation, axiom, sorry.
-/
import Derived.Test.YtmpmomboclhjoaaChecked
import GoSem.Claim
import GoSem.ClaimJoined
import GoSem.ClaimMapViews
import Derived.JoinedTies
import Derived.KernelRfl
namespace Go.Proofs.Ytmpmomboclhjoaa
/- THE CELL 'sum', in the pinned program and in every row, IS THE sha256 OF THE DUMP (.gsa) THAT YtmpmomboclhjoaaProg.lean LOADS. Nothing in Lean hashes anything: it is a label: what it is worth is what the hold of that sum in a sandbox is worth. -/
noncomputable def Try.pinned : Pinned := { name := "ytmpmomboclhjoaa", sum := "c8ffccc8cca7f88580a832f0d51fdec266410ec6dcf45996b0641fcbb795be27", checked := Try.checked }
namespace Rows
def none {H : Type} : Left H := { results := [], args := [] }

/-- 'turbarylaw02.DrainMost': WHATEVER THE INPUT: true; the input reads as it did. -/
def drainMostSpec : ChangeSpec := { name := "drainMost", fn := fun _ => fun
  | [d] => { results := [.lit (.bool true)], args := [d] }
  | _ => none }
def drainMostRow : OpenClaim := { program := "ytmpmomboclhjoaa", sum := "c8ffccc8cca7f88580a832f0d51fdec266410ec6dcf45996b0641fcbb795be27", func := "turbary/turbarylaw02.DrainMost", spec := "drainMost", unfollowed := true, recurses := true, apart := false }
def DrainMostSaid : Prop := drainMostRow.holds Try.pinned (OpenSpec.ofChange drainMostSpec)

/-- ITS FALSE NEIGHBOUR: 'it returns false'. Refute it at one input. -/
def drainMostWrong : ChangeSpec := { name := "drainMost", fn := fun _ => fun
  | [d] => { results := [.lit (.bool false)], args := [d] }
  | _ => none }
def DrainMostWrongFalsely : Prop := drainMostRow.holds Try.pinned (OpenSpec.ofChange drainMostWrong)

/-- 'turbarylaw02.DrainReverses': WHATEVER THE INPUT: true; the input reads as it did. -/
def drainReversesSpec : ChangeSpec := { name := "drainReverses", fn := fun _ => fun
  | [d] => { results := [.lit (.bool true)], args := [d] }
  | _ => none }
def drainReversesRow : OpenClaim := { program := "ytmpmomboclhjoaa", sum := "c8ffccc8cca7f88580a832f0d51fdec266410ec6dcf45996b0641fcbb795be27", func := "turbary/turbarylaw02.DrainReverses", spec := "drainReverses", unfollowed := true, recurses := true, apart := false }
def DrainReversesSaid : Prop := drainReversesRow.holds Try.pinned (OpenSpec.ofChange drainReversesSpec)

/-- ITS FALSE NEIGHBOUR: 'it returns false'. Refute it at one input. -/
def drainReversesWrong : ChangeSpec := { name := "drainReverses", fn := fun _ => fun
  | [d] => { results := [.lit (.bool false)], args := [d] }
  | _ => none }
def DrainReversesWrongFalsely : Prop := drainReversesRow.holds Try.pinned (OpenSpec.ofChange drainReversesWrong)

/-- 'turbarylaw02.DrainFlows': WHATEVER THE INPUT: true; the input reads as it did. -/
def drainFlowsSpec : ChangeSpec := { name := "drainFlows", fn := fun _ => fun
  | [d1, d2] => { results := [.lit (.bool true)], args := [d1, d2] }
  | _ => none }
def drainFlowsRow : OpenClaim := { program := "ytmpmomboclhjoaa", sum := "c8ffccc8cca7f88580a832f0d51fdec266410ec6dcf45996b0641fcbb795be27", func := "turbary/turbarylaw02.DrainFlows", spec := "drainFlows", unfollowed := true, recurses := true, apart := false }
def DrainFlowsSaid : Prop := drainFlowsRow.holds Try.pinned (OpenSpec.ofChange drainFlowsSpec)

/-- ITS FALSE NEIGHBOUR: 'it returns false'. Refute it at one input. -/
def drainFlowsWrong : ChangeSpec := { name := "drainFlows", fn := fun _ => fun
  | [d1, d2] => { results := [.lit (.bool false)], args := [d1, d2] }
  | _ => none }
def DrainFlowsWrongFalsely : Prop := drainFlowsRow.holds Try.pinned (OpenSpec.ofChange drainFlowsWrong)

/-- 'turbarylaw02.DrainBounds': WHATEVER THE INPUT: true; the input reads as it did. -/
def drainBoundsSpec : ChangeSpec := { name := "drainBounds", fn := fun _ => fun
  | [d1, d2, d3] => { results := [.lit (.bool true)], args := [d1, d2, d3] }
  | _ => none }
def drainBoundsRow : OpenClaim := { program := "ytmpmomboclhjoaa", sum := "c8ffccc8cca7f88580a832f0d51fdec266410ec6dcf45996b0641fcbb795be27", func := "turbary/turbarylaw02.DrainBounds", spec := "drainBounds", unfollowed := true, recurses := true, apart := false }
def DrainBoundsSaid : Prop := drainBoundsRow.holds Try.pinned (OpenSpec.ofChange drainBoundsSpec)

/-- ITS FALSE NEIGHBOUR: 'it returns false'. Refute it at one input. -/
def drainBoundsWrong : ChangeSpec := { name := "drainBounds", fn := fun _ => fun
  | [d1, d2, d3] => { results := [.lit (.bool false)], args := [d1, d2, d3] }
  | _ => none }
def DrainBoundsWrongFalsely : Prop := drainBoundsRow.holds Try.pinned (OpenSpec.ofChange drainBoundsWrong)

/-- 'turbarylaw02.DrainCuts': WHATEVER THE INPUT: true; the input reads as it did. -/
def drainCutsSpec : ChangeSpec := { name := "drainCuts", fn := fun _ => fun
  | [d1, d2] => { results := [.lit (.bool true)], args := [d1, d2] }
  | _ => none }
def drainCutsRow : OpenClaim := { program := "ytmpmomboclhjoaa", sum := "c8ffccc8cca7f88580a832f0d51fdec266410ec6dcf45996b0641fcbb795be27", func := "turbary/turbarylaw02.DrainCuts", spec := "drainCuts", unfollowed := true, recurses := true, apart := false }
def DrainCutsSaid : Prop := drainCutsRow.holds Try.pinned (OpenSpec.ofChange drainCutsSpec)

/-- ITS FALSE NEIGHBOUR: 'it returns false'. Refute it at one input. -/
def drainCutsWrong : ChangeSpec := { name := "drainCuts", fn := fun _ => fun
  | [d1, d2] => { results := [.lit (.bool false)], args := [d1, d2] }
  | _ => none }
def DrainCutsWrongFalsely : Prop := drainCutsRow.holds Try.pinned (OpenSpec.ofChange drainCutsWrong)

/-- 'turbarylaw02.DrainJoins': WHATEVER THE INPUT: true; the input reads as it did. -/
def drainJoinsSpec : ChangeSpec := { name := "drainJoins", fn := fun _ => fun
  | [d1, d2] => { results := [.lit (.bool true)], args := [d1, d2] }
  | _ => none }
def drainJoinsRow : OpenClaim := { program := "ytmpmomboclhjoaa", sum := "c8ffccc8cca7f88580a832f0d51fdec266410ec6dcf45996b0641fcbb795be27", func := "turbary/turbarylaw02.DrainJoins", spec := "drainJoins", unfollowed := true, recurses := true, apart := false }
def DrainJoinsSaid : Prop := drainJoinsRow.holds Try.pinned (OpenSpec.ofChange drainJoinsSpec)

/-- ITS FALSE NEIGHBOUR: 'it returns false'. Refute it at one input. -/
def drainJoinsWrong : ChangeSpec := { name := "drainJoins", fn := fun _ => fun
  | [d1, d2] => { results := [.lit (.bool false)], args := [d1, d2] }
  | _ => none }
def DrainJoinsWrongFalsely : Prop := drainJoinsRow.holds Try.pinned (OpenSpec.ofChange drainJoinsWrong)

/-- 'turbarylaw02.DrainSums': WHATEVER THE INPUT: true; the input reads as it did. -/
def drainSumsSpec : ChangeSpec := { name := "drainSums", fn := fun _ => fun
  | [d1, d2] => { results := [.lit (.bool true)], args := [d1, d2] }
  | _ => none }
def drainSumsRow : OpenClaim := { program := "ytmpmomboclhjoaa", sum := "c8ffccc8cca7f88580a832f0d51fdec266410ec6dcf45996b0641fcbb795be27", func := "turbary/turbarylaw02.DrainSums", spec := "drainSums", unfollowed := true, recurses := true, apart := false }
def DrainSumsSaid : Prop := drainSumsRow.holds Try.pinned (OpenSpec.ofChange drainSumsSpec)

/-- ITS FALSE NEIGHBOUR: 'it returns false'. Refute it at one input. -/
def drainSumsWrong : ChangeSpec := { name := "drainSums", fn := fun _ => fun
  | [d1, d2] => { results := [.lit (.bool false)], args := [d1, d2] }
  | _ => none }
def DrainSumsWrongFalsely : Prop := drainSumsRow.holds Try.pinned (OpenSpec.ofChange drainSumsWrong)

/-- 'turbarylaw02.DrainWidens': WHATEVER THE INPUT: true; the input reads as it did. -/
def drainWidensSpec : ChangeSpec := { name := "drainWidens", fn := fun _ => fun
  | [d1, d2, d3] => { results := [.lit (.bool true)], args := [d1, d2, d3] }
  | _ => none }
def drainWidensRow : OpenClaim := { program := "ytmpmomboclhjoaa", sum := "c8ffccc8cca7f88580a832f0d51fdec266410ec6dcf45996b0641fcbb795be27", func := "turbary/turbarylaw02.DrainWidens", spec := "drainWidens", unfollowed := true, recurses := true, apart := false }
def DrainWidensSaid : Prop := drainWidensRow.holds Try.pinned (OpenSpec.ofChange drainWidensSpec)

/-- ITS FALSE NEIGHBOUR: 'it returns false'. Refute it at one input. -/
def drainWidensWrong : ChangeSpec := { name := "drainWidens", fn := fun _ => fun
  | [d1, d2, d3] => { results := [.lit (.bool false)], args := [d1, d2, d3] }
  | _ => none }
def DrainWidensWrongFalsely : Prop := drainWidensRow.holds Try.pinned (OpenSpec.ofChange drainWidensWrong)

/-- 'turbarylaw02.DrainCritical': WHATEVER THE INPUT: true; the input reads as it did. -/
def drainCriticalSpec : ChangeSpec := { name := "drainCritical", fn := fun _ => fun
  | [d] => { results := [.lit (.bool true)], args := [d] }
  | _ => none }
def drainCriticalRow : OpenClaim := { program := "ytmpmomboclhjoaa", sum := "c8ffccc8cca7f88580a832f0d51fdec266410ec6dcf45996b0641fcbb795be27", func := "turbary/turbarylaw02.DrainCritical", spec := "drainCritical", unfollowed := true, recurses := true, apart := false }
def DrainCriticalSaid : Prop := drainCriticalRow.holds Try.pinned (OpenSpec.ofChange drainCriticalSpec)

/-- ITS FALSE NEIGHBOUR: 'it returns false'. Refute it at one input. -/
def drainCriticalWrong : ChangeSpec := { name := "drainCritical", fn := fun _ => fun
  | [d] => { results := [.lit (.bool false)], args := [d] }
  | _ => none }
def DrainCriticalWrongFalsely : Prop := drainCriticalRow.holds Try.pinned (OpenSpec.ofChange drainCriticalWrong)

/-- 'turbarylaw02.DrainLeaves': WHATEVER THE INPUT: true; the input reads as it did. -/
def drainLeavesSpec : ChangeSpec := { name := "drainLeaves", fn := fun _ => fun
  | [d] => { results := [.lit (.bool true)], args := [d] }
  | _ => none }
def drainLeavesRow : OpenClaim := { program := "ytmpmomboclhjoaa", sum := "c8ffccc8cca7f88580a832f0d51fdec266410ec6dcf45996b0641fcbb795be27", func := "turbary/turbarylaw02.DrainLeaves", spec := "drainLeaves", unfollowed := true, recurses := true, apart := false }
def DrainLeavesSaid : Prop := drainLeavesRow.holds Try.pinned (OpenSpec.ofChange drainLeavesSpec)

/-- ITS FALSE NEIGHBOUR: 'it returns false'. Refute it at one input. -/
def drainLeavesWrong : ChangeSpec := { name := "drainLeaves", fn := fun _ => fun
  | [d] => { results := [.lit (.bool false)], args := [d] }
  | _ => none }
def DrainLeavesWrongFalsely : Prop := drainLeavesRow.holds Try.pinned (OpenSpec.ofChange drainLeavesWrong)

/-- 'turbarylaw02.DrainProves': WHATEVER THE INPUT: true; the input reads as it did. -/
def drainProvesSpec : ChangeSpec := { name := "drainProves", fn := fun _ => fun
  | [d1, d2, d3] => { results := [.lit (.bool true)], args := [d1, d2, d3] }
  | _ => none }
def drainProvesRow : OpenClaim := { program := "ytmpmomboclhjoaa", sum := "c8ffccc8cca7f88580a832f0d51fdec266410ec6dcf45996b0641fcbb795be27", func := "turbary/turbarylaw02.DrainProves", spec := "drainProves", unfollowed := true, recurses := true, apart := false }
def DrainProvesSaid : Prop := drainProvesRow.holds Try.pinned (OpenSpec.ofChange drainProvesSpec)

/-- ITS FALSE NEIGHBOUR: 'it returns false'. Refute it at one input. -/
def drainProvesWrong : ChangeSpec := { name := "drainProves", fn := fun _ => fun
  | [d1, d2, d3] => { results := [.lit (.bool false)], args := [d1, d2, d3] }
  | _ => none }
def DrainProvesWrongFalsely : Prop := drainProvesRow.holds Try.pinned (OpenSpec.ofChange drainProvesWrong)

/-- 'turbarylaw02.DrainBack': WHATEVER THE INPUT: true; the input reads as it did. -/
def drainBackSpec : ChangeSpec := { name := "drainBack", fn := fun _ => fun
  | [d] => { results := [.lit (.bool true)], args := [d] }
  | _ => none }
def drainBackRow : OpenClaim := { program := "ytmpmomboclhjoaa", sum := "c8ffccc8cca7f88580a832f0d51fdec266410ec6dcf45996b0641fcbb795be27", func := "turbary/turbarylaw02.DrainBack", spec := "drainBack", unfollowed := true, recurses := true, apart := false }
def DrainBackSaid : Prop := drainBackRow.holds Try.pinned (OpenSpec.ofChange drainBackSpec)

/-- ITS FALSE NEIGHBOUR: 'it returns false'. Refute it at one input. -/
def drainBackWrong : ChangeSpec := { name := "drainBack", fn := fun _ => fun
  | [d] => { results := [.lit (.bool false)], args := [d] }
  | _ => none }
def DrainBackWrongFalsely : Prop := drainBackRow.holds Try.pinned (OpenSpec.ofChange drainBackWrong)

/-- 'turbarytop.TopFlows': WHATEVER THE INPUT: true; the input reads as it did. -/
def topFlowsSpec : ChangeSpec := { name := "topFlows", fn := fun _ => fun
  | [d1, d2] => { results := [.lit (.bool true)], args := [d1, d2] }
  | _ => none }
def topFlowsRow : OpenClaim := { program := "ytmpmomboclhjoaa", sum := "c8ffccc8cca7f88580a832f0d51fdec266410ec6dcf45996b0641fcbb795be27", func := "turbary/turbarytop.TopFlows", spec := "topFlows", unfollowed := true, recurses := true, apart := false }
def TopFlowsSaid : Prop := topFlowsRow.holds Try.pinned (OpenSpec.ofChange topFlowsSpec)

/-- ITS FALSE NEIGHBOUR: 'it returns false'. Refute it at one input. -/
def topFlowsWrong : ChangeSpec := { name := "topFlows", fn := fun _ => fun
  | [d1, d2] => { results := [.lit (.bool false)], args := [d1, d2] }
  | _ => none }
def TopFlowsWrongFalsely : Prop := topFlowsRow.holds Try.pinned (OpenSpec.ofChange topFlowsWrong)

/- THE SECOND FORM. 'bulk': how many values and letters a reading holds, each counted each time it is reached (what is shared counts as often as it is met; a slice's spare places count too). A statement '..UptoSaid' is the law's where the arguments, and the package variables that the reading takes, are together of bulk at most 1048576: NARROWER than '..Said'. Prove '..Said' where nothing that the law and all that it calls make is longer than what came in: it says more and counts as full. Else prove '..UptoSaid'. A law counts once. -/
mutual
def uptoBulk {H : Type} : DataW H → Nat
  | .lit (.string bytes) => bytes.length + 1
  | .lit _ => 1
  | .nil => 1
  | .ptr d => uptoBulk d + 1
  | .slice elems spare => uptoBulkAll elems + uptoBulkAll spare + 1
  | .agg parts => uptoBulkAll parts + 1
  | .iface _ d => uptoBulk d + 1
  | .map entries => uptoBulkEntries entries + 1
  | .held _ => 1
def uptoBulkAll {H : Type} : List (DataW H) → Nat
  | [] => 0
  | d :: r => uptoBulk d + uptoBulkAll r
def uptoBulkEntries {H : Type} : List (Lit × DataW H) → Nat
  | [] => 0
  | x :: r => uptoBulkEntry x + uptoBulkEntries r
def uptoBulkEntry {H : Type} : Lit × DataW H → Nat
  | (.string bytes, d) => bytes.length + uptoBulk d + 1
  | (_, d) => uptoBulk d + 1
 end
def uptoSmall : (H : Type) → List (DataW H) → Bool := fun _ ds => decide (uptoBulkAll ds ≤ 1048576)
def OpenSpec.upto (s : _root_.Go.ChangeSpec) : _root_.Go.OpenSpec := { _root_.Go.OpenSpec.ofChange s with cond := some uptoSmall }

/-- 'turbarylaw02.DrainMost', WHERE WHAT IT READS IS OF BULK AT MOST 1048576: true; the input reads as it did. -/
def drainMostUptoRow : OpenClaim := { program := "ytmpmomboclhjoaa", sum := "c8ffccc8cca7f88580a832f0d51fdec266410ec6dcf45996b0641fcbb795be27", func := "turbary/turbarylaw02.DrainMost", spec := "drainMost", unfollowed := true, recurses := true, apart := false, narrowed := true }
def DrainMostUptoSaid : Prop := drainMostUptoRow.holds Try.pinned (OpenSpec.upto drainMostSpec)

/-- 'turbarylaw02.DrainReverses', WHERE WHAT IT READS IS OF BULK AT MOST 1048576: true; the input reads as it did. -/
def drainReversesUptoRow : OpenClaim := { program := "ytmpmomboclhjoaa", sum := "c8ffccc8cca7f88580a832f0d51fdec266410ec6dcf45996b0641fcbb795be27", func := "turbary/turbarylaw02.DrainReverses", spec := "drainReverses", unfollowed := true, recurses := true, apart := false, narrowed := true }
def DrainReversesUptoSaid : Prop := drainReversesUptoRow.holds Try.pinned (OpenSpec.upto drainReversesSpec)

/-- 'turbarylaw02.DrainFlows', WHERE WHAT IT READS IS OF BULK AT MOST 1048576: true; the input reads as it did. -/
def drainFlowsUptoRow : OpenClaim := { program := "ytmpmomboclhjoaa", sum := "c8ffccc8cca7f88580a832f0d51fdec266410ec6dcf45996b0641fcbb795be27", func := "turbary/turbarylaw02.DrainFlows", spec := "drainFlows", unfollowed := true, recurses := true, apart := false, narrowed := true }
def DrainFlowsUptoSaid : Prop := drainFlowsUptoRow.holds Try.pinned (OpenSpec.upto drainFlowsSpec)

/-- 'turbarylaw02.DrainBounds', WHERE WHAT IT READS IS OF BULK AT MOST 1048576: true; the input reads as it did. -/
def drainBoundsUptoRow : OpenClaim := { program := "ytmpmomboclhjoaa", sum := "c8ffccc8cca7f88580a832f0d51fdec266410ec6dcf45996b0641fcbb795be27", func := "turbary/turbarylaw02.DrainBounds", spec := "drainBounds", unfollowed := true, recurses := true, apart := false, narrowed := true }
def DrainBoundsUptoSaid : Prop := drainBoundsUptoRow.holds Try.pinned (OpenSpec.upto drainBoundsSpec)

/-- 'turbarylaw02.DrainCuts', WHERE WHAT IT READS IS OF BULK AT MOST 1048576: true; the input reads as it did. -/
def drainCutsUptoRow : OpenClaim := { program := "ytmpmomboclhjoaa", sum := "c8ffccc8cca7f88580a832f0d51fdec266410ec6dcf45996b0641fcbb795be27", func := "turbary/turbarylaw02.DrainCuts", spec := "drainCuts", unfollowed := true, recurses := true, apart := false, narrowed := true }
def DrainCutsUptoSaid : Prop := drainCutsUptoRow.holds Try.pinned (OpenSpec.upto drainCutsSpec)

/-- 'turbarylaw02.DrainJoins', WHERE WHAT IT READS IS OF BULK AT MOST 1048576: true; the input reads as it did. -/
def drainJoinsUptoRow : OpenClaim := { program := "ytmpmomboclhjoaa", sum := "c8ffccc8cca7f88580a832f0d51fdec266410ec6dcf45996b0641fcbb795be27", func := "turbary/turbarylaw02.DrainJoins", spec := "drainJoins", unfollowed := true, recurses := true, apart := false, narrowed := true }
def DrainJoinsUptoSaid : Prop := drainJoinsUptoRow.holds Try.pinned (OpenSpec.upto drainJoinsSpec)

/-- 'turbarylaw02.DrainSums', WHERE WHAT IT READS IS OF BULK AT MOST 1048576: true; the input reads as it did. -/
def drainSumsUptoRow : OpenClaim := { program := "ytmpmomboclhjoaa", sum := "c8ffccc8cca7f88580a832f0d51fdec266410ec6dcf45996b0641fcbb795be27", func := "turbary/turbarylaw02.DrainSums", spec := "drainSums", unfollowed := true, recurses := true, apart := false, narrowed := true }
def DrainSumsUptoSaid : Prop := drainSumsUptoRow.holds Try.pinned (OpenSpec.upto drainSumsSpec)

/-- 'turbarylaw02.DrainWidens', WHERE WHAT IT READS IS OF BULK AT MOST 1048576: true; the input reads as it did. -/
def drainWidensUptoRow : OpenClaim := { program := "ytmpmomboclhjoaa", sum := "c8ffccc8cca7f88580a832f0d51fdec266410ec6dcf45996b0641fcbb795be27", func := "turbary/turbarylaw02.DrainWidens", spec := "drainWidens", unfollowed := true, recurses := true, apart := false, narrowed := true }
def DrainWidensUptoSaid : Prop := drainWidensUptoRow.holds Try.pinned (OpenSpec.upto drainWidensSpec)

/-- 'turbarylaw02.DrainCritical', WHERE WHAT IT READS IS OF BULK AT MOST 1048576: true; the input reads as it did. -/
def drainCriticalUptoRow : OpenClaim := { program := "ytmpmomboclhjoaa", sum := "c8ffccc8cca7f88580a832f0d51fdec266410ec6dcf45996b0641fcbb795be27", func := "turbary/turbarylaw02.DrainCritical", spec := "drainCritical", unfollowed := true, recurses := true, apart := false, narrowed := true }
def DrainCriticalUptoSaid : Prop := drainCriticalUptoRow.holds Try.pinned (OpenSpec.upto drainCriticalSpec)

/-- 'turbarylaw02.DrainLeaves', WHERE WHAT IT READS IS OF BULK AT MOST 1048576: true; the input reads as it did. -/
def drainLeavesUptoRow : OpenClaim := { program := "ytmpmomboclhjoaa", sum := "c8ffccc8cca7f88580a832f0d51fdec266410ec6dcf45996b0641fcbb795be27", func := "turbary/turbarylaw02.DrainLeaves", spec := "drainLeaves", unfollowed := true, recurses := true, apart := false, narrowed := true }
def DrainLeavesUptoSaid : Prop := drainLeavesUptoRow.holds Try.pinned (OpenSpec.upto drainLeavesSpec)

/-- 'turbarylaw02.DrainProves', WHERE WHAT IT READS IS OF BULK AT MOST 1048576: true; the input reads as it did. -/
def drainProvesUptoRow : OpenClaim := { program := "ytmpmomboclhjoaa", sum := "c8ffccc8cca7f88580a832f0d51fdec266410ec6dcf45996b0641fcbb795be27", func := "turbary/turbarylaw02.DrainProves", spec := "drainProves", unfollowed := true, recurses := true, apart := false, narrowed := true }
def DrainProvesUptoSaid : Prop := drainProvesUptoRow.holds Try.pinned (OpenSpec.upto drainProvesSpec)

/-- 'turbarylaw02.DrainBack', WHERE WHAT IT READS IS OF BULK AT MOST 1048576: true; the input reads as it did. -/
def drainBackUptoRow : OpenClaim := { program := "ytmpmomboclhjoaa", sum := "c8ffccc8cca7f88580a832f0d51fdec266410ec6dcf45996b0641fcbb795be27", func := "turbary/turbarylaw02.DrainBack", spec := "drainBack", unfollowed := true, recurses := true, apart := false, narrowed := true }
def DrainBackUptoSaid : Prop := drainBackUptoRow.holds Try.pinned (OpenSpec.upto drainBackSpec)

/-- 'turbarytop.TopFlows', WHERE WHAT IT READS IS OF BULK AT MOST 1048576: true; the input reads as it did. -/
def topFlowsUptoRow : OpenClaim := { program := "ytmpmomboclhjoaa", sum := "c8ffccc8cca7f88580a832f0d51fdec266410ec6dcf45996b0641fcbb795be27", func := "turbary/turbarytop.TopFlows", spec := "topFlows", unfollowed := true, recurses := true, apart := false, narrowed := true }
def TopFlowsUptoSaid : Prop := topFlowsUptoRow.holds Try.pinned (OpenSpec.upto topFlowsSpec)

end Rows
end Go.Proofs.Ytmpmomboclhjoaa
