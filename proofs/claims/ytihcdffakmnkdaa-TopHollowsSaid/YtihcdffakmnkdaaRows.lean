/-
  No cell of these rows narrows 'for every input' (looked for: loops, veiled, ifaces, maps, wideKeys, modest, calm, conditions, laid).
  DERIVED. THE GIVEN ROWS OF THIS SEAT. 14 by the template 'for every input the law returns true; each argument reads behind the call as it read before'; 0 by the template 'total and deterministic' (their statements: YtihcdffakmnkdaaTotals.lean).
  GIVEN WITH THE SEED: the statements are not yours to turn. If you find one false, say at which input.
  Laid BY PROGRAM, IN A SANDBOX (cutbox-rows.mjs): the forced cells as the released guide's own fill.sh prints them over the translation d304e4893f52fb54… (all of the seat's roots in one cut). By AI agents, Wed Nov 11 2026. No macro, syntax, notation, axiom, sorry.
-/
import Derived.Test.YtihcdffakmnkdaaChecked
import GoSem.Claim
import GoSem.ClaimJoined
import GoSem.ClaimMapViews
import Derived.JoinedTies
import Derived.KernelRfl
namespace Go.Proofs.Ytihcdffakmnkdaa
/- THE CELL 'sum', in the pinned program and in every row, IS THE sha256 OF THE DUMP (.gsa) THAT YtihcdffakmnkdaaProg.lean LOADS. Nothing in Lean hashes anything: it is a label: what it is worth is what the hold of that sum in a sandbox is worth. -/
noncomputable def Try.pinned : Pinned := { name := "ytihcdffakmnkdaa", sum := "d304e4893f52fb546c4ac3ce2c9c6451b0957658b640f190d7ed1cc37c64e2a1", checked := Try.checked }
namespace Rows
def none {H : Type} : Left H := { results := [], args := [] }

/-- 'turbarylaw04.CutOpens': WHATEVER THE INPUT: true; the input reads as it did. -/
def cutOpensSpec : ChangeSpec := { name := "cutOpens", fn := fun _ => fun
  | [d1, d2] => { results := [.lit (.bool true)], args := [d1, d2] }
  | _ => none }
def cutOpensRow : OpenClaim := { program := "ytihcdffakmnkdaa", sum := "d304e4893f52fb546c4ac3ce2c9c6451b0957658b640f190d7ed1cc37c64e2a1", func := "turbary/turbarylaw04.CutOpens", spec := "cutOpens", unfollowed := true, recurses := true, plainKeys := false, apart := false }
def CutOpensSaid : Prop := cutOpensRow.holds Try.pinned (OpenSpec.ofChange cutOpensSpec)

/-- ITS FALSE NEIGHBOUR: 'it returns false'. Refute it at one input. -/
def cutOpensWrong : ChangeSpec := { name := "cutOpens", fn := fun _ => fun
  | [d1, d2] => { results := [.lit (.bool false)], args := [d1, d2] }
  | _ => none }
def CutOpensWrongFalsely : Prop := cutOpensRow.holds Try.pinned (OpenSpec.ofChange cutOpensWrong)

/-- 'turbarylaw04.CutHollows': WHATEVER THE INPUT: true; the input reads as it did. -/
def cutHollowsSpec : ChangeSpec := { name := "cutHollows", fn := fun _ => fun
  | [d1, d2] => { results := [.lit (.bool true)], args := [d1, d2] }
  | _ => none }
def cutHollowsRow : OpenClaim := { program := "ytihcdffakmnkdaa", sum := "d304e4893f52fb546c4ac3ce2c9c6451b0957658b640f190d7ed1cc37c64e2a1", func := "turbary/turbarylaw04.CutHollows", spec := "cutHollows", unfollowed := true, recurses := true, plainKeys := false, apart := false }
def CutHollowsSaid : Prop := cutHollowsRow.holds Try.pinned (OpenSpec.ofChange cutHollowsSpec)

/-- ITS FALSE NEIGHBOUR: 'it returns false'. Refute it at one input. -/
def cutHollowsWrong : ChangeSpec := { name := "cutHollows", fn := fun _ => fun
  | [d1, d2] => { results := [.lit (.bool false)], args := [d1, d2] }
  | _ => none }
def CutHollowsWrongFalsely : Prop := cutHollowsRow.holds Try.pinned (OpenSpec.ofChange cutHollowsWrong)

/-- 'turbarylaw04.CutBests': WHATEVER THE INPUT: true; the input reads as it did. -/
def cutBestsSpec : ChangeSpec := { name := "cutBests", fn := fun _ => fun
  | [d] => { results := [.lit (.bool true)], args := [d] }
  | _ => none }
def cutBestsRow : OpenClaim := { program := "ytihcdffakmnkdaa", sum := "d304e4893f52fb546c4ac3ce2c9c6451b0957658b640f190d7ed1cc37c64e2a1", func := "turbary/turbarylaw04.CutBests", spec := "cutBests", unfollowed := true, recurses := true, plainKeys := false, apart := false }
def CutBestsSaid : Prop := cutBestsRow.holds Try.pinned (OpenSpec.ofChange cutBestsSpec)

/-- ITS FALSE NEIGHBOUR: 'it returns false'. Refute it at one input. -/
def cutBestsWrong : ChangeSpec := { name := "cutBests", fn := fun _ => fun
  | [d] => { results := [.lit (.bool false)], args := [d] }
  | _ => none }
def CutBestsWrongFalsely : Prop := cutBestsRow.holds Try.pinned (OpenSpec.ofChange cutBestsWrong)

/-- 'turbarylaw04.CutOrders': WHATEVER THE INPUT: true; the input reads as it did. -/
def cutOrdersSpec : ChangeSpec := { name := "cutOrders", fn := fun _ => fun
  | [d1, d2] => { results := [.lit (.bool true)], args := [d1, d2] }
  | _ => none }
def cutOrdersRow : OpenClaim := { program := "ytihcdffakmnkdaa", sum := "d304e4893f52fb546c4ac3ce2c9c6451b0957658b640f190d7ed1cc37c64e2a1", func := "turbary/turbarylaw04.CutOrders", spec := "cutOrders", unfollowed := true, recurses := true, plainKeys := false, apart := false }
def CutOrdersSaid : Prop := cutOrdersRow.holds Try.pinned (OpenSpec.ofChange cutOrdersSpec)

/-- ITS FALSE NEIGHBOUR: 'it returns false'. Refute it at one input. -/
def cutOrdersWrong : ChangeSpec := { name := "cutOrders", fn := fun _ => fun
  | [d1, d2] => { results := [.lit (.bool false)], args := [d1, d2] }
  | _ => none }
def CutOrdersWrongFalsely : Prop := cutOrdersRow.holds Try.pinned (OpenSpec.ofChange cutOrdersWrong)

/-- 'turbarylaw04.CutBounds': WHATEVER THE INPUT: true; the input reads as it did. -/
def cutBoundsSpec : ChangeSpec := { name := "cutBounds", fn := fun _ => fun
  | [d1, d2, d3] => { results := [.lit (.bool true)], args := [d1, d2, d3] }
  | _ => none }
def cutBoundsRow : OpenClaim := { program := "ytihcdffakmnkdaa", sum := "d304e4893f52fb546c4ac3ce2c9c6451b0957658b640f190d7ed1cc37c64e2a1", func := "turbary/turbarylaw04.CutBounds", spec := "cutBounds", unfollowed := true, recurses := true, plainKeys := false, apart := false }
def CutBoundsSaid : Prop := cutBoundsRow.holds Try.pinned (OpenSpec.ofChange cutBoundsSpec)

/-- ITS FALSE NEIGHBOUR: 'it returns false'. Refute it at one input. -/
def cutBoundsWrong : ChangeSpec := { name := "cutBounds", fn := fun _ => fun
  | [d1, d2, d3] => { results := [.lit (.bool false)], args := [d1, d2, d3] }
  | _ => none }
def CutBoundsWrongFalsely : Prop := cutBoundsRow.holds Try.pinned (OpenSpec.ofChange cutBoundsWrong)

/-- 'turbarylaw04.CutJoins': WHATEVER THE INPUT: true; the input reads as it did. -/
def cutJoinsSpec : ChangeSpec := { name := "cutJoins", fn := fun _ => fun
  | [d1, d2, d3] => { results := [.lit (.bool true)], args := [d1, d2, d3] }
  | _ => none }
def cutJoinsRow : OpenClaim := { program := "ytihcdffakmnkdaa", sum := "d304e4893f52fb546c4ac3ce2c9c6451b0957658b640f190d7ed1cc37c64e2a1", func := "turbary/turbarylaw04.CutJoins", spec := "cutJoins", unfollowed := true, recurses := true, plainKeys := false, apart := false }
def CutJoinsSaid : Prop := cutJoinsRow.holds Try.pinned (OpenSpec.ofChange cutJoinsSpec)

/-- ITS FALSE NEIGHBOUR: 'it returns false'. Refute it at one input. -/
def cutJoinsWrong : ChangeSpec := { name := "cutJoins", fn := fun _ => fun
  | [d1, d2, d3] => { results := [.lit (.bool false)], args := [d1, d2, d3] }
  | _ => none }
def CutJoinsWrongFalsely : Prop := cutJoinsRow.holds Try.pinned (OpenSpec.ofChange cutJoinsWrong)

/-- 'turbarylaw04.CutMirrors': WHATEVER THE INPUT: true; the input reads as it did. -/
def cutMirrorsSpec : ChangeSpec := { name := "cutMirrors", fn := fun _ => fun
  | [d1, d2] => { results := [.lit (.bool true)], args := [d1, d2] }
  | _ => none }
def cutMirrorsRow : OpenClaim := { program := "ytihcdffakmnkdaa", sum := "d304e4893f52fb546c4ac3ce2c9c6451b0957658b640f190d7ed1cc37c64e2a1", func := "turbary/turbarylaw04.CutMirrors", spec := "cutMirrors", unfollowed := true, recurses := true, plainKeys := false, apart := false }
def CutMirrorsSaid : Prop := cutMirrorsRow.holds Try.pinned (OpenSpec.ofChange cutMirrorsSpec)

/-- ITS FALSE NEIGHBOUR: 'it returns false'. Refute it at one input. -/
def cutMirrorsWrong : ChangeSpec := { name := "cutMirrors", fn := fun _ => fun
  | [d1, d2] => { results := [.lit (.bool false)], args := [d1, d2] }
  | _ => none }
def CutMirrorsWrongFalsely : Prop := cutMirrorsRow.holds Try.pinned (OpenSpec.ofChange cutMirrorsWrong)

/-- 'turbarylaw04.CutTolls': WHATEVER THE INPUT: true; the input reads as it did. -/
def cutTollsSpec : ChangeSpec := { name := "cutTolls", fn := fun _ => fun
  | [d1, d2] => { results := [.lit (.bool true)], args := [d1, d2] }
  | _ => none }
def cutTollsRow : OpenClaim := { program := "ytihcdffakmnkdaa", sum := "d304e4893f52fb546c4ac3ce2c9c6451b0957658b640f190d7ed1cc37c64e2a1", func := "turbary/turbarylaw04.CutTolls", spec := "cutTolls", unfollowed := true, recurses := true, plainKeys := false, apart := false }
def CutTollsSaid : Prop := cutTollsRow.holds Try.pinned (OpenSpec.ofChange cutTollsSpec)

/-- ITS FALSE NEIGHBOUR: 'it returns false'. Refute it at one input. -/
def cutTollsWrong : ChangeSpec := { name := "cutTolls", fn := fun _ => fun
  | [d1, d2] => { results := [.lit (.bool false)], args := [d1, d2] }
  | _ => none }
def CutTollsWrongFalsely : Prop := cutTollsRow.holds Try.pinned (OpenSpec.ofChange cutTollsWrong)

/-- 'turbarylaw04.CutRanks': WHATEVER THE INPUT: true; the input reads as it did. -/
def cutRanksSpec : ChangeSpec := { name := "cutRanks", fn := fun _ => fun
  | [d1, d2, d3] => { results := [.lit (.bool true)], args := [d1, d2, d3] }
  | _ => none }
def cutRanksRow : OpenClaim := { program := "ytihcdffakmnkdaa", sum := "d304e4893f52fb546c4ac3ce2c9c6451b0957658b640f190d7ed1cc37c64e2a1", func := "turbary/turbarylaw04.CutRanks", spec := "cutRanks", unfollowed := true, recurses := true, plainKeys := false, apart := false }
def CutRanksSaid : Prop := cutRanksRow.holds Try.pinned (OpenSpec.ofChange cutRanksSpec)

/-- ITS FALSE NEIGHBOUR: 'it returns false'. Refute it at one input. -/
def cutRanksWrong : ChangeSpec := { name := "cutRanks", fn := fun _ => fun
  | [d1, d2, d3] => { results := [.lit (.bool false)], args := [d1, d2, d3] }
  | _ => none }
def CutRanksWrongFalsely : Prop := cutRanksRow.holds Try.pinned (OpenSpec.ofChange cutRanksWrong)

/-- 'turbarylaw04.CutNumbers': WHATEVER THE INPUT: true; the input reads as it did. -/
def cutNumbersSpec : ChangeSpec := { name := "cutNumbers", fn := fun _ => fun
  | [d1, d2] => { results := [.lit (.bool true)], args := [d1, d2] }
  | _ => none }
def cutNumbersRow : OpenClaim := { program := "ytihcdffakmnkdaa", sum := "d304e4893f52fb546c4ac3ce2c9c6451b0957658b640f190d7ed1cc37c64e2a1", func := "turbary/turbarylaw04.CutNumbers", spec := "cutNumbers", unfollowed := true, recurses := true, plainKeys := false, apart := false }
def CutNumbersSaid : Prop := cutNumbersRow.holds Try.pinned (OpenSpec.ofChange cutNumbersSpec)

/-- ITS FALSE NEIGHBOUR: 'it returns false'. Refute it at one input. -/
def cutNumbersWrong : ChangeSpec := { name := "cutNumbers", fn := fun _ => fun
  | [d1, d2] => { results := [.lit (.bool false)], args := [d1, d2] }
  | _ => none }
def CutNumbersWrongFalsely : Prop := cutNumbersRow.holds Try.pinned (OpenSpec.ofChange cutNumbersWrong)

/-- 'turbarylaw04.CutProofs': WHATEVER THE INPUT: true; the input reads as it did. -/
def cutProofsSpec : ChangeSpec := { name := "cutProofs", fn := fun _ => fun
  | [d1, d2, d3] => { results := [.lit (.bool true)], args := [d1, d2, d3] }
  | _ => none }
def cutProofsRow : OpenClaim := { program := "ytihcdffakmnkdaa", sum := "d304e4893f52fb546c4ac3ce2c9c6451b0957658b640f190d7ed1cc37c64e2a1", func := "turbary/turbarylaw04.CutProofs", spec := "cutProofs", unfollowed := true, recurses := true, plainKeys := false, apart := false }
def CutProofsSaid : Prop := cutProofsRow.holds Try.pinned (OpenSpec.ofChange cutProofsSpec)

/-- ITS FALSE NEIGHBOUR: 'it returns false'. Refute it at one input. -/
def cutProofsWrong : ChangeSpec := { name := "cutProofs", fn := fun _ => fun
  | [d1, d2, d3] => { results := [.lit (.bool false)], args := [d1, d2, d3] }
  | _ => none }
def CutProofsWrongFalsely : Prop := cutProofsRow.holds Try.pinned (OpenSpec.ofChange cutProofsWrong)

/-- 'turbarylaw04.CutPlans': WHATEVER THE INPUT: true; the input reads as it did. -/
def cutPlansSpec : ChangeSpec := { name := "cutPlans", fn := fun _ => fun
  | [d1, d2] => { results := [.lit (.bool true)], args := [d1, d2] }
  | _ => none }
def cutPlansRow : OpenClaim := { program := "ytihcdffakmnkdaa", sum := "d304e4893f52fb546c4ac3ce2c9c6451b0957658b640f190d7ed1cc37c64e2a1", func := "turbary/turbarylaw04.CutPlans", spec := "cutPlans", unfollowed := true, recurses := true, plainKeys := false, apart := false }
def CutPlansSaid : Prop := cutPlansRow.holds Try.pinned (OpenSpec.ofChange cutPlansSpec)

/-- ITS FALSE NEIGHBOUR: 'it returns false'. Refute it at one input. -/
def cutPlansWrong : ChangeSpec := { name := "cutPlans", fn := fun _ => fun
  | [d1, d2] => { results := [.lit (.bool false)], args := [d1, d2] }
  | _ => none }
def CutPlansWrongFalsely : Prop := cutPlansRow.holds Try.pinned (OpenSpec.ofChange cutPlansWrong)

/-- 'turbarylaw04.CutProves': WHATEVER THE INPUT: true; the input reads as it did. -/
def cutProvesSpec : ChangeSpec := { name := "cutProves", fn := fun _ => fun
  | [d] => { results := [.lit (.bool true)], args := [d] }
  | _ => none }
def cutProvesRow : OpenClaim := { program := "ytihcdffakmnkdaa", sum := "d304e4893f52fb546c4ac3ce2c9c6451b0957658b640f190d7ed1cc37c64e2a1", func := "turbary/turbarylaw04.CutProves", spec := "cutProves", unfollowed := true, recurses := true, plainKeys := false, apart := false }
def CutProvesSaid : Prop := cutProvesRow.holds Try.pinned (OpenSpec.ofChange cutProvesSpec)

/-- ITS FALSE NEIGHBOUR: 'it returns false'. Refute it at one input. -/
def cutProvesWrong : ChangeSpec := { name := "cutProves", fn := fun _ => fun
  | [d] => { results := [.lit (.bool false)], args := [d] }
  | _ => none }
def CutProvesWrongFalsely : Prop := cutProvesRow.holds Try.pinned (OpenSpec.ofChange cutProvesWrong)

/-- 'turbarytop.TopHollows': WHATEVER THE INPUT: true; the input reads as it did. -/
def topHollowsSpec : ChangeSpec := { name := "topHollows", fn := fun _ => fun
  | [d1, d2, d3] => { results := [.lit (.bool true)], args := [d1, d2, d3] }
  | _ => none }
def topHollowsRow : OpenClaim := { program := "ytihcdffakmnkdaa", sum := "d304e4893f52fb546c4ac3ce2c9c6451b0957658b640f190d7ed1cc37c64e2a1", func := "turbary/turbarytop.TopHollows", spec := "topHollows", unfollowed := true, recurses := true, plainKeys := false, apart := false }
def TopHollowsSaid : Prop := topHollowsRow.holds Try.pinned (OpenSpec.ofChange topHollowsSpec)

/-- ITS FALSE NEIGHBOUR: 'it returns false'. Refute it at one input. -/
def topHollowsWrong : ChangeSpec := { name := "topHollows", fn := fun _ => fun
  | [d1, d2, d3] => { results := [.lit (.bool false)], args := [d1, d2, d3] }
  | _ => none }
def TopHollowsWrongFalsely : Prop := topHollowsRow.holds Try.pinned (OpenSpec.ofChange topHollowsWrong)

/- THE SECOND FORM. 'bulk': how many values and letters a reading holds, each counted each time it is reached (what is shared counts as often as it is met; a slice's spare places count too). A statement '..UptoSaid' is the law's where the arguments, and the package variables that the reading takes, are together of bulk at most 1048576: NARROWER than '..Said'. Prove '..Said' where nothing that the law and all that it calls make is longer than what came in: it says more and counts as full. Else prove '..UptoSaid'. A law counts once. -/
mutual
def uptoBulk {H : Type} : DataW H → Nat
  | .lit (.string bytes) => bytes.length + 1
  | .lit _ => 1
  | .nil => 1
  | .ptr d => uptoBulk d + 1
  | .slice elems spare => uptoBulkAll elems + uptoBulkAll spare + 1
  | .agg parts => uptoBulkAll parts + 1
  | .iface _ d => uptoBulk d + 1
  | .map entries => uptoBulkEntries entries + 1
  | .held _ => 1
def uptoBulkAll {H : Type} : List (DataW H) → Nat
  | [] => 0
  | d :: r => uptoBulk d + uptoBulkAll r
def uptoBulkEntries {H : Type} : List (Lit × DataW H) → Nat
  | [] => 0
  | x :: r => uptoBulkEntry x + uptoBulkEntries r
def uptoBulkEntry {H : Type} : Lit × DataW H → Nat
  | (.string bytes, d) => bytes.length + uptoBulk d + 1
  | (_, d) => uptoBulk d + 1
 end
def uptoSmall : (H : Type) → List (DataW H) → Bool := fun _ ds => decide (uptoBulkAll ds ≤ 1048576)
def OpenSpec.upto (s : _root_.Go.ChangeSpec) : _root_.Go.OpenSpec := { _root_.Go.OpenSpec.ofChange s with cond := some uptoSmall }

/-- 'turbarylaw04.CutOpens', WHERE WHAT IT READS IS OF BULK AT MOST 1048576: true; the input reads as it did. -/
def cutOpensUptoRow : OpenClaim := { program := "ytihcdffakmnkdaa", sum := "d304e4893f52fb546c4ac3ce2c9c6451b0957658b640f190d7ed1cc37c64e2a1", func := "turbary/turbarylaw04.CutOpens", spec := "cutOpens", unfollowed := true, recurses := true, plainKeys := false, apart := false, narrowed := true }
def CutOpensUptoSaid : Prop := cutOpensUptoRow.holds Try.pinned (OpenSpec.upto cutOpensSpec)

/-- 'turbarylaw04.CutHollows', WHERE WHAT IT READS IS OF BULK AT MOST 1048576: true; the input reads as it did. -/
def cutHollowsUptoRow : OpenClaim := { program := "ytihcdffakmnkdaa", sum := "d304e4893f52fb546c4ac3ce2c9c6451b0957658b640f190d7ed1cc37c64e2a1", func := "turbary/turbarylaw04.CutHollows", spec := "cutHollows", unfollowed := true, recurses := true, plainKeys := false, apart := false, narrowed := true }
def CutHollowsUptoSaid : Prop := cutHollowsUptoRow.holds Try.pinned (OpenSpec.upto cutHollowsSpec)

/-- 'turbarylaw04.CutBests', WHERE WHAT IT READS IS OF BULK AT MOST 1048576: true; the input reads as it did. -/
def cutBestsUptoRow : OpenClaim := { program := "ytihcdffakmnkdaa", sum := "d304e4893f52fb546c4ac3ce2c9c6451b0957658b640f190d7ed1cc37c64e2a1", func := "turbary/turbarylaw04.CutBests", spec := "cutBests", unfollowed := true, recurses := true, plainKeys := false, apart := false, narrowed := true }
def CutBestsUptoSaid : Prop := cutBestsUptoRow.holds Try.pinned (OpenSpec.upto cutBestsSpec)

/-- 'turbarylaw04.CutOrders', WHERE WHAT IT READS IS OF BULK AT MOST 1048576: true; the input reads as it did. -/
def cutOrdersUptoRow : OpenClaim := { program := "ytihcdffakmnkdaa", sum := "d304e4893f52fb546c4ac3ce2c9c6451b0957658b640f190d7ed1cc37c64e2a1", func := "turbary/turbarylaw04.CutOrders", spec := "cutOrders", unfollowed := true, recurses := true, plainKeys := false, apart := false, narrowed := true }
def CutOrdersUptoSaid : Prop := cutOrdersUptoRow.holds Try.pinned (OpenSpec.upto cutOrdersSpec)

/-- 'turbarylaw04.CutBounds', WHERE WHAT IT READS IS OF BULK AT MOST 1048576: true; the input reads as it did. -/
def cutBoundsUptoRow : OpenClaim := { program := "ytihcdffakmnkdaa", sum := "d304e4893f52fb546c4ac3ce2c9c6451b0957658b640f190d7ed1cc37c64e2a1", func := "turbary/turbarylaw04.CutBounds", spec := "cutBounds", unfollowed := true, recurses := true, plainKeys := false, apart := false, narrowed := true }
def CutBoundsUptoSaid : Prop := cutBoundsUptoRow.holds Try.pinned (OpenSpec.upto cutBoundsSpec)

/-- 'turbarylaw04.CutJoins', WHERE WHAT IT READS IS OF BULK AT MOST 1048576: true; the input reads as it did. -/
def cutJoinsUptoRow : OpenClaim := { program := "ytihcdffakmnkdaa", sum := "d304e4893f52fb546c4ac3ce2c9c6451b0957658b640f190d7ed1cc37c64e2a1", func := "turbary/turbarylaw04.CutJoins", spec := "cutJoins", unfollowed := true, recurses := true, plainKeys := false, apart := false, narrowed := true }
def CutJoinsUptoSaid : Prop := cutJoinsUptoRow.holds Try.pinned (OpenSpec.upto cutJoinsSpec)

/-- 'turbarylaw04.CutMirrors', WHERE WHAT IT READS IS OF BULK AT MOST 1048576: true; the input reads as it did. -/
def cutMirrorsUptoRow : OpenClaim := { program := "ytihcdffakmnkdaa", sum := "d304e4893f52fb546c4ac3ce2c9c6451b0957658b640f190d7ed1cc37c64e2a1", func := "turbary/turbarylaw04.CutMirrors", spec := "cutMirrors", unfollowed := true, recurses := true, plainKeys := false, apart := false, narrowed := true }
def CutMirrorsUptoSaid : Prop := cutMirrorsUptoRow.holds Try.pinned (OpenSpec.upto cutMirrorsSpec)

/-- 'turbarylaw04.CutTolls', WHERE WHAT IT READS IS OF BULK AT MOST 1048576: true; the input reads as it did. -/
def cutTollsUptoRow : OpenClaim := { program := "ytihcdffakmnkdaa", sum := "d304e4893f52fb546c4ac3ce2c9c6451b0957658b640f190d7ed1cc37c64e2a1", func := "turbary/turbarylaw04.CutTolls", spec := "cutTolls", unfollowed := true, recurses := true, plainKeys := false, apart := false, narrowed := true }
def CutTollsUptoSaid : Prop := cutTollsUptoRow.holds Try.pinned (OpenSpec.upto cutTollsSpec)

/-- 'turbarylaw04.CutRanks', WHERE WHAT IT READS IS OF BULK AT MOST 1048576: true; the input reads as it did. -/
def cutRanksUptoRow : OpenClaim := { program := "ytihcdffakmnkdaa", sum := "d304e4893f52fb546c4ac3ce2c9c6451b0957658b640f190d7ed1cc37c64e2a1", func := "turbary/turbarylaw04.CutRanks", spec := "cutRanks", unfollowed := true, recurses := true, plainKeys := false, apart := false, narrowed := true }
def CutRanksUptoSaid : Prop := cutRanksUptoRow.holds Try.pinned (OpenSpec.upto cutRanksSpec)

/-- 'turbarylaw04.CutNumbers', WHERE WHAT IT READS IS OF BULK AT MOST 1048576: true; the input reads as it did. -/
def cutNumbersUptoRow : OpenClaim := { program := "ytihcdffakmnkdaa", sum := "d304e4893f52fb546c4ac3ce2c9c6451b0957658b640f190d7ed1cc37c64e2a1", func := "turbary/turbarylaw04.CutNumbers", spec := "cutNumbers", unfollowed := true, recurses := true, plainKeys := false, apart := false, narrowed := true }
def CutNumbersUptoSaid : Prop := cutNumbersUptoRow.holds Try.pinned (OpenSpec.upto cutNumbersSpec)

/-- 'turbarylaw04.CutProofs', WHERE WHAT IT READS IS OF BULK AT MOST 1048576: true; the input reads as it did. -/
def cutProofsUptoRow : OpenClaim := { program := "ytihcdffakmnkdaa", sum := "d304e4893f52fb546c4ac3ce2c9c6451b0957658b640f190d7ed1cc37c64e2a1", func := "turbary/turbarylaw04.CutProofs", spec := "cutProofs", unfollowed := true, recurses := true, plainKeys := false, apart := false, narrowed := true }
def CutProofsUptoSaid : Prop := cutProofsUptoRow.holds Try.pinned (OpenSpec.upto cutProofsSpec)

/-- 'turbarylaw04.CutPlans', WHERE WHAT IT READS IS OF BULK AT MOST 1048576: true; the input reads as it did. -/
def cutPlansUptoRow : OpenClaim := { program := "ytihcdffakmnkdaa", sum := "d304e4893f52fb546c4ac3ce2c9c6451b0957658b640f190d7ed1cc37c64e2a1", func := "turbary/turbarylaw04.CutPlans", spec := "cutPlans", unfollowed := true, recurses := true, plainKeys := false, apart := false, narrowed := true }
def CutPlansUptoSaid : Prop := cutPlansUptoRow.holds Try.pinned (OpenSpec.upto cutPlansSpec)

/-- 'turbarylaw04.CutProves', WHERE WHAT IT READS IS OF BULK AT MOST 1048576: true; the input reads as it did. -/
def cutProvesUptoRow : OpenClaim := { program := "ytihcdffakmnkdaa", sum := "d304e4893f52fb546c4ac3ce2c9c6451b0957658b640f190d7ed1cc37c64e2a1", func := "turbary/turbarylaw04.CutProves", spec := "cutProves", unfollowed := true, recurses := true, plainKeys := false, apart := false, narrowed := true }
def CutProvesUptoSaid : Prop := cutProvesUptoRow.holds Try.pinned (OpenSpec.upto cutProvesSpec)

/-- 'turbarytop.TopHollows', WHERE WHAT IT READS IS OF BULK AT MOST 1048576: true; the input reads as it did. -/
def topHollowsUptoRow : OpenClaim := { program := "ytihcdffakmnkdaa", sum := "d304e4893f52fb546c4ac3ce2c9c6451b0957658b640f190d7ed1cc37c64e2a1", func := "turbary/turbarytop.TopHollows", spec := "topHollows", unfollowed := true, recurses := true, plainKeys := false, apart := false, narrowed := true }
def TopHollowsUptoSaid : Prop := topHollowsUptoRow.holds Try.pinned (OpenSpec.upto topHollowsSpec)

end Rows
end Go.Proofs.Ytihcdffakmnkdaa
