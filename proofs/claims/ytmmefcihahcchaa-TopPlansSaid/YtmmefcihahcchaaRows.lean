/-
  No cell of these rows narrows 'for every input' (looked for: loops, veiled, ifaces, maps, wideKeys, modest, calm, conditions, laid).
  DERIVED. THE GIVEN ROWS OF THIS SEAT. 14 by the template 'for every input the law returns true; each argument reads behind the call as it read before'; 0 by the template 'total and deterministic' (their statements: YtmmefcihahcchaaTotals.lean).
  GIVEN WITH THE SEED: the statements are not yours to turn. If you find one false, say at which input.
  Laid BY PROGRAM, IN A SANDBOX (cutbox-rows.mjs): the forced cells as the released guide's own fill.sh prints them over the translation 03e161edab45ab78… (all of the seat's roots in one cut). By AI agents, Wed Nov 11 2026. No macro, syntax, notation, axiom, sorry.
-/
import Derived.Test.YtmmefcihahcchaaChecked
import GoSem.Claim
import GoSem.ClaimJoined
import GoSem.ClaimMapViews
import Derived.JoinedTies
import Derived.KernelRfl
namespace Go.Proofs.Ytmmefcihahcchaa
/- THE CELL 'sum', in the pinned program and in every row, IS THE sha256 OF THE DUMP (.gsa) THAT YtmmefcihahcchaaProg.lean LOADS. Nothing in Lean hashes anything: it is a label: what it is worth is what the hold of that sum in a sandbox is worth. -/
noncomputable def Try.pinned : Pinned := { name := "ytmmefcihahcchaa", sum := "03e161edab45ab787354e11f0f705c356087d87b63d284d4a65619b26e4dfeb6", checked := Try.checked }
namespace Rows
def none {H : Type} : Left H := { results := [], args := [] }

/-- 'turbarylaw07.BulkPrices': WHATEVER THE INPUT: true; the input reads as it did. -/
def bulkPricesSpec : ChangeSpec := { name := "bulkPrices", fn := fun _ => fun
  | [d1, d2] => { results := [.lit (.bool true)], args := [d1, d2] }
  | _ => none }
def bulkPricesRow : OpenClaim := { program := "ytmmefcihahcchaa", sum := "03e161edab45ab787354e11f0f705c356087d87b63d284d4a65619b26e4dfeb6", func := "turbary/turbarylaw07.BulkPrices", spec := "bulkPrices", unfollowed := true, recurses := true, apart := false }
def BulkPricesSaid : Prop := bulkPricesRow.holds Try.pinned (OpenSpec.ofChange bulkPricesSpec)

/-- ITS FALSE NEIGHBOUR: 'it returns false'. Refute it at one input. -/
def bulkPricesWrong : ChangeSpec := { name := "bulkPrices", fn := fun _ => fun
  | [d1, d2] => { results := [.lit (.bool false)], args := [d1, d2] }
  | _ => none }
def BulkPricesWrongFalsely : Prop := bulkPricesRow.holds Try.pinned (OpenSpec.ofChange bulkPricesWrong)

/-- 'turbarylaw07.BulkLeast': WHATEVER THE INPUT: true; the input reads as it did. -/
def bulkLeastSpec : ChangeSpec := { name := "bulkLeast", fn := fun _ => fun
  | [d] => { results := [.lit (.bool true)], args := [d] }
  | _ => none }
def bulkLeastRow : OpenClaim := { program := "ytmmefcihahcchaa", sum := "03e161edab45ab787354e11f0f705c356087d87b63d284d4a65619b26e4dfeb6", func := "turbary/turbarylaw07.BulkLeast", spec := "bulkLeast", unfollowed := true, recurses := true, apart := false }
def BulkLeastSaid : Prop := bulkLeastRow.holds Try.pinned (OpenSpec.ofChange bulkLeastSpec)

/-- ITS FALSE NEIGHBOUR: 'it returns false'. Refute it at one input. -/
def bulkLeastWrong : ChangeSpec := { name := "bulkLeast", fn := fun _ => fun
  | [d] => { results := [.lit (.bool false)], args := [d] }
  | _ => none }
def BulkLeastWrongFalsely : Prop := bulkLeastRow.holds Try.pinned (OpenSpec.ofChange bulkLeastWrong)

/-- 'turbarylaw07.BulkProves': WHATEVER THE INPUT: true; the input reads as it did. -/
def bulkProvesSpec : ChangeSpec := { name := "bulkProves", fn := fun _ => fun
  | [d] => { results := [.lit (.bool true)], args := [d] }
  | _ => none }
def bulkProvesRow : OpenClaim := { program := "ytmmefcihahcchaa", sum := "03e161edab45ab787354e11f0f705c356087d87b63d284d4a65619b26e4dfeb6", func := "turbary/turbarylaw07.BulkProves", spec := "bulkProves", unfollowed := true, recurses := true, apart := false }
def BulkProvesSaid : Prop := bulkProvesRow.holds Try.pinned (OpenSpec.ofChange bulkProvesSpec)

/-- ITS FALSE NEIGHBOUR: 'it returns false'. Refute it at one input. -/
def bulkProvesWrong : ChangeSpec := { name := "bulkProves", fn := fun _ => fun
  | [d] => { results := [.lit (.bool false)], args := [d] }
  | _ => none }
def BulkProvesWrongFalsely : Prop := bulkProvesRow.holds Try.pinned (OpenSpec.ofChange bulkProvesWrong)

/-- 'turbarylaw07.BulkTolls': WHATEVER THE INPUT: true; the input reads as it did. -/
def bulkTollsSpec : ChangeSpec := { name := "bulkTolls", fn := fun _ => fun
  | [d1, d2, d3] => { results := [.lit (.bool true)], args := [d1, d2, d3] }
  | _ => none }
def bulkTollsRow : OpenClaim := { program := "ytmmefcihahcchaa", sum := "03e161edab45ab787354e11f0f705c356087d87b63d284d4a65619b26e4dfeb6", func := "turbary/turbarylaw07.BulkTolls", spec := "bulkTolls", unfollowed := true, recurses := true, apart := false }
def BulkTollsSaid : Prop := bulkTollsRow.holds Try.pinned (OpenSpec.ofChange bulkTollsSpec)

/-- ITS FALSE NEIGHBOUR: 'it returns false'. Refute it at one input. -/
def bulkTollsWrong : ChangeSpec := { name := "bulkTolls", fn := fun _ => fun
  | [d1, d2, d3] => { results := [.lit (.bool false)], args := [d1, d2, d3] }
  | _ => none }
def BulkTollsWrongFalsely : Prop := bulkTollsRow.holds Try.pinned (OpenSpec.ofChange bulkTollsWrong)

/-- 'turbarylaw07.BulkCorners': WHATEVER THE INPUT: true; the input reads as it did. -/
def bulkCornersSpec : ChangeSpec := { name := "bulkCorners", fn := fun _ => fun
  | [d] => { results := [.lit (.bool true)], args := [d] }
  | _ => none }
def bulkCornersRow : OpenClaim := { program := "ytmmefcihahcchaa", sum := "03e161edab45ab787354e11f0f705c356087d87b63d284d4a65619b26e4dfeb6", func := "turbary/turbarylaw07.BulkCorners", spec := "bulkCorners", unfollowed := true, recurses := true, apart := false }
def BulkCornersSaid : Prop := bulkCornersRow.holds Try.pinned (OpenSpec.ofChange bulkCornersSpec)

/-- ITS FALSE NEIGHBOUR: 'it returns false'. Refute it at one input. -/
def bulkCornersWrong : ChangeSpec := { name := "bulkCorners", fn := fun _ => fun
  | [d] => { results := [.lit (.bool false)], args := [d] }
  | _ => none }
def BulkCornersWrongFalsely : Prop := bulkCornersRow.holds Try.pinned (OpenSpec.ofChange bulkCornersWrong)

/-- 'turbarylaw07.BulkMerges': WHATEVER THE INPUT: true; the input reads as it did. -/
def bulkMergesSpec : ChangeSpec := { name := "bulkMerges", fn := fun _ => fun
  | [d1, d2, d3] => { results := [.lit (.bool true)], args := [d1, d2, d3] }
  | _ => none }
def bulkMergesRow : OpenClaim := { program := "ytmmefcihahcchaa", sum := "03e161edab45ab787354e11f0f705c356087d87b63d284d4a65619b26e4dfeb6", func := "turbary/turbarylaw07.BulkMerges", spec := "bulkMerges", unfollowed := true, recurses := true, apart := false }
def BulkMergesSaid : Prop := bulkMergesRow.holds Try.pinned (OpenSpec.ofChange bulkMergesSpec)

/-- ITS FALSE NEIGHBOUR: 'it returns false'. Refute it at one input. -/
def bulkMergesWrong : ChangeSpec := { name := "bulkMerges", fn := fun _ => fun
  | [d1, d2, d3] => { results := [.lit (.bool false)], args := [d1, d2, d3] }
  | _ => none }
def BulkMergesWrongFalsely : Prop := bulkMergesRow.holds Try.pinned (OpenSpec.ofChange bulkMergesWrong)

/-- 'turbarylaw07.BulkPlans': WHATEVER THE INPUT: true; the input reads as it did. -/
def bulkPlansSpec : ChangeSpec := { name := "bulkPlans", fn := fun _ => fun
  | [d1, d2] => { results := [.lit (.bool true)], args := [d1, d2] }
  | _ => none }
def bulkPlansRow : OpenClaim := { program := "ytmmefcihahcchaa", sum := "03e161edab45ab787354e11f0f705c356087d87b63d284d4a65619b26e4dfeb6", func := "turbary/turbarylaw07.BulkPlans", spec := "bulkPlans", unfollowed := true, recurses := true, apart := false }
def BulkPlansSaid : Prop := bulkPlansRow.holds Try.pinned (OpenSpec.ofChange bulkPlansSpec)

/-- ITS FALSE NEIGHBOUR: 'it returns false'. Refute it at one input. -/
def bulkPlansWrong : ChangeSpec := { name := "bulkPlans", fn := fun _ => fun
  | [d1, d2] => { results := [.lit (.bool false)], args := [d1, d2] }
  | _ => none }
def BulkPlansWrongFalsely : Prop := bulkPlansRow.holds Try.pinned (OpenSpec.ofChange bulkPlansWrong)

/-- 'turbarylaw07.BulkRounds': WHATEVER THE INPUT: true; the input reads as it did. -/
def bulkRoundsSpec : ChangeSpec := { name := "bulkRounds", fn := fun _ => fun
  | [d1, d2] => { results := [.lit (.bool true)], args := [d1, d2] }
  | _ => none }
def bulkRoundsRow : OpenClaim := { program := "ytmmefcihahcchaa", sum := "03e161edab45ab787354e11f0f705c356087d87b63d284d4a65619b26e4dfeb6", func := "turbary/turbarylaw07.BulkRounds", spec := "bulkRounds", unfollowed := true, recurses := true, apart := false }
def BulkRoundsSaid : Prop := bulkRoundsRow.holds Try.pinned (OpenSpec.ofChange bulkRoundsSpec)

/-- ITS FALSE NEIGHBOUR: 'it returns false'. Refute it at one input. -/
def bulkRoundsWrong : ChangeSpec := { name := "bulkRounds", fn := fun _ => fun
  | [d1, d2] => { results := [.lit (.bool false)], args := [d1, d2] }
  | _ => none }
def BulkRoundsWrongFalsely : Prop := bulkRoundsRow.holds Try.pinned (OpenSpec.ofChange bulkRoundsWrong)

/-- 'turbarylaw07.BulkBest': WHATEVER THE INPUT: true; the input reads as it did. -/
def bulkBestSpec : ChangeSpec := { name := "bulkBest", fn := fun _ => fun
  | [d1, d2] => { results := [.lit (.bool true)], args := [d1, d2] }
  | _ => none }
def bulkBestRow : OpenClaim := { program := "ytmmefcihahcchaa", sum := "03e161edab45ab787354e11f0f705c356087d87b63d284d4a65619b26e4dfeb6", func := "turbary/turbarylaw07.BulkBest", spec := "bulkBest", unfollowed := true, recurses := true, apart := false }
def BulkBestSaid : Prop := bulkBestRow.holds Try.pinned (OpenSpec.ofChange bulkBestSpec)

/-- ITS FALSE NEIGHBOUR: 'it returns false'. Refute it at one input. -/
def bulkBestWrong : ChangeSpec := { name := "bulkBest", fn := fun _ => fun
  | [d1, d2] => { results := [.lit (.bool false)], args := [d1, d2] }
  | _ => none }
def BulkBestWrongFalsely : Prop := bulkBestRow.holds Try.pinned (OpenSpec.ofChange bulkBestWrong)

/-- 'turbarylaw07.BulkAdds': WHATEVER THE INPUT: true; the input reads as it did. -/
def bulkAddsSpec : ChangeSpec := { name := "bulkAdds", fn := fun _ => fun
  | [d1, d2] => { results := [.lit (.bool true)], args := [d1, d2] }
  | _ => none }
def bulkAddsRow : OpenClaim := { program := "ytmmefcihahcchaa", sum := "03e161edab45ab787354e11f0f705c356087d87b63d284d4a65619b26e4dfeb6", func := "turbary/turbarylaw07.BulkAdds", spec := "bulkAdds", unfollowed := true, recurses := true, apart := false }
def BulkAddsSaid : Prop := bulkAddsRow.holds Try.pinned (OpenSpec.ofChange bulkAddsSpec)

/-- ITS FALSE NEIGHBOUR: 'it returns false'. Refute it at one input. -/
def bulkAddsWrong : ChangeSpec := { name := "bulkAdds", fn := fun _ => fun
  | [d1, d2] => { results := [.lit (.bool false)], args := [d1, d2] }
  | _ => none }
def BulkAddsWrongFalsely : Prop := bulkAddsRow.holds Try.pinned (OpenSpec.ofChange bulkAddsWrong)

/-- 'turbarylaw07.BulkTurns': WHATEVER THE INPUT: true; the input reads as it did. -/
def bulkTurnsSpec : ChangeSpec := { name := "bulkTurns", fn := fun _ => fun
  | [d1, d2] => { results := [.lit (.bool true)], args := [d1, d2] }
  | _ => none }
def bulkTurnsRow : OpenClaim := { program := "ytmmefcihahcchaa", sum := "03e161edab45ab787354e11f0f705c356087d87b63d284d4a65619b26e4dfeb6", func := "turbary/turbarylaw07.BulkTurns", spec := "bulkTurns", unfollowed := true, recurses := true, apart := false }
def BulkTurnsSaid : Prop := bulkTurnsRow.holds Try.pinned (OpenSpec.ofChange bulkTurnsSpec)

/-- ITS FALSE NEIGHBOUR: 'it returns false'. Refute it at one input. -/
def bulkTurnsWrong : ChangeSpec := { name := "bulkTurns", fn := fun _ => fun
  | [d1, d2] => { results := [.lit (.bool false)], args := [d1, d2] }
  | _ => none }
def BulkTurnsWrongFalsely : Prop := bulkTurnsRow.holds Try.pinned (OpenSpec.ofChange bulkTurnsWrong)

/-- 'turbarylaw07.BulkSquares': WHATEVER THE INPUT: true; the input reads as it did. -/
def bulkSquaresSpec : ChangeSpec := { name := "bulkSquares", fn := fun _ => fun
  | [d] => { results := [.lit (.bool true)], args := [d] }
  | _ => none }
def bulkSquaresRow : OpenClaim := { program := "ytmmefcihahcchaa", sum := "03e161edab45ab787354e11f0f705c356087d87b63d284d4a65619b26e4dfeb6", func := "turbary/turbarylaw07.BulkSquares", spec := "bulkSquares", unfollowed := true, recurses := true, apart := false }
def BulkSquaresSaid : Prop := bulkSquaresRow.holds Try.pinned (OpenSpec.ofChange bulkSquaresSpec)

/-- ITS FALSE NEIGHBOUR: 'it returns false'. Refute it at one input. -/
def bulkSquaresWrong : ChangeSpec := { name := "bulkSquares", fn := fun _ => fun
  | [d] => { results := [.lit (.bool false)], args := [d] }
  | _ => none }
def BulkSquaresWrongFalsely : Prop := bulkSquaresRow.holds Try.pinned (OpenSpec.ofChange bulkSquaresWrong)

/-- 'turbarylaw07.BulkAlong': WHATEVER THE INPUT: true; the input reads as it did. -/
def bulkAlongSpec : ChangeSpec := { name := "bulkAlong", fn := fun _ => fun
  | [d1, d2, d3] => { results := [.lit (.bool true)], args := [d1, d2, d3] }
  | _ => none }
def bulkAlongRow : OpenClaim := { program := "ytmmefcihahcchaa", sum := "03e161edab45ab787354e11f0f705c356087d87b63d284d4a65619b26e4dfeb6", func := "turbary/turbarylaw07.BulkAlong", spec := "bulkAlong", unfollowed := true, recurses := true, apart := false }
def BulkAlongSaid : Prop := bulkAlongRow.holds Try.pinned (OpenSpec.ofChange bulkAlongSpec)

/-- ITS FALSE NEIGHBOUR: 'it returns false'. Refute it at one input. -/
def bulkAlongWrong : ChangeSpec := { name := "bulkAlong", fn := fun _ => fun
  | [d1, d2, d3] => { results := [.lit (.bool false)], args := [d1, d2, d3] }
  | _ => none }
def BulkAlongWrongFalsely : Prop := bulkAlongRow.holds Try.pinned (OpenSpec.ofChange bulkAlongWrong)

/-- 'turbarytop.TopPlans': WHATEVER THE INPUT: true; the input reads as it did. -/
def topPlansSpec : ChangeSpec := { name := "topPlans", fn := fun _ => fun
  | [d1, d2, d3] => { results := [.lit (.bool true)], args := [d1, d2, d3] }
  | _ => none }
def topPlansRow : OpenClaim := { program := "ytmmefcihahcchaa", sum := "03e161edab45ab787354e11f0f705c356087d87b63d284d4a65619b26e4dfeb6", func := "turbary/turbarytop.TopPlans", spec := "topPlans", unfollowed := true, recurses := true, apart := false }
def TopPlansSaid : Prop := topPlansRow.holds Try.pinned (OpenSpec.ofChange topPlansSpec)

/-- ITS FALSE NEIGHBOUR: 'it returns false'. Refute it at one input. -/
def topPlansWrong : ChangeSpec := { name := "topPlans", fn := fun _ => fun
  | [d1, d2, d3] => { results := [.lit (.bool false)], args := [d1, d2, d3] }
  | _ => none }
def TopPlansWrongFalsely : Prop := topPlansRow.holds Try.pinned (OpenSpec.ofChange topPlansWrong)

/- THE SECOND FORM. 'bulk': how many values and letters a reading holds, each counted each time it is reached (what is shared counts as often as it is met; a slice's spare places count too). A statement '..UptoSaid' is the law's where the arguments, and the package variables that the reading takes, are together of bulk at most 1048576: NARROWER than '..Said'. Prove '..Said' where nothing that the law and all that it calls make is longer than what came in: it says more and counts as full. Else prove '..UptoSaid'. A law counts once. -/
mutual
def uptoBulk {H : Type} : DataW H → Nat
  | .lit (.string bytes) => bytes.length + 1
  | .lit _ => 1
  | .nil => 1
  | .ptr d => uptoBulk d + 1
  | .slice elems spare => uptoBulkAll elems + uptoBulkAll spare + 1
  | .agg parts => uptoBulkAll parts + 1
  | .iface _ d => uptoBulk d + 1
  | .map entries => uptoBulkEntries entries + 1
  | .held _ => 1
def uptoBulkAll {H : Type} : List (DataW H) → Nat
  | [] => 0
  | d :: r => uptoBulk d + uptoBulkAll r
def uptoBulkEntries {H : Type} : List (Lit × DataW H) → Nat
  | [] => 0
  | x :: r => uptoBulkEntry x + uptoBulkEntries r
def uptoBulkEntry {H : Type} : Lit × DataW H → Nat
  | (.string bytes, d) => bytes.length + uptoBulk d + 1
  | (_, d) => uptoBulk d + 1
 end
def uptoSmall : (H : Type) → List (DataW H) → Bool := fun _ ds => decide (uptoBulkAll ds ≤ 1048576)
def OpenSpec.upto (s : _root_.Go.ChangeSpec) : _root_.Go.OpenSpec := { _root_.Go.OpenSpec.ofChange s with cond := some uptoSmall }

/-- 'turbarylaw07.BulkPrices', WHERE WHAT IT READS IS OF BULK AT MOST 1048576: true; the input reads as it did. -/
def bulkPricesUptoRow : OpenClaim := { program := "ytmmefcihahcchaa", sum := "03e161edab45ab787354e11f0f705c356087d87b63d284d4a65619b26e4dfeb6", func := "turbary/turbarylaw07.BulkPrices", spec := "bulkPrices", unfollowed := true, recurses := true, apart := false, narrowed := true }
def BulkPricesUptoSaid : Prop := bulkPricesUptoRow.holds Try.pinned (OpenSpec.upto bulkPricesSpec)

/-- 'turbarylaw07.BulkLeast', WHERE WHAT IT READS IS OF BULK AT MOST 1048576: true; the input reads as it did. -/
def bulkLeastUptoRow : OpenClaim := { program := "ytmmefcihahcchaa", sum := "03e161edab45ab787354e11f0f705c356087d87b63d284d4a65619b26e4dfeb6", func := "turbary/turbarylaw07.BulkLeast", spec := "bulkLeast", unfollowed := true, recurses := true, apart := false, narrowed := true }
def BulkLeastUptoSaid : Prop := bulkLeastUptoRow.holds Try.pinned (OpenSpec.upto bulkLeastSpec)

/-- 'turbarylaw07.BulkProves', WHERE WHAT IT READS IS OF BULK AT MOST 1048576: true; the input reads as it did. -/
def bulkProvesUptoRow : OpenClaim := { program := "ytmmefcihahcchaa", sum := "03e161edab45ab787354e11f0f705c356087d87b63d284d4a65619b26e4dfeb6", func := "turbary/turbarylaw07.BulkProves", spec := "bulkProves", unfollowed := true, recurses := true, apart := false, narrowed := true }
def BulkProvesUptoSaid : Prop := bulkProvesUptoRow.holds Try.pinned (OpenSpec.upto bulkProvesSpec)

/-- 'turbarylaw07.BulkTolls', WHERE WHAT IT READS IS OF BULK AT MOST 1048576: true; the input reads as it did. -/
def bulkTollsUptoRow : OpenClaim := { program := "ytmmefcihahcchaa", sum := "03e161edab45ab787354e11f0f705c356087d87b63d284d4a65619b26e4dfeb6", func := "turbary/turbarylaw07.BulkTolls", spec := "bulkTolls", unfollowed := true, recurses := true, apart := false, narrowed := true }
def BulkTollsUptoSaid : Prop := bulkTollsUptoRow.holds Try.pinned (OpenSpec.upto bulkTollsSpec)

/-- 'turbarylaw07.BulkCorners', WHERE WHAT IT READS IS OF BULK AT MOST 1048576: true; the input reads as it did. -/
def bulkCornersUptoRow : OpenClaim := { program := "ytmmefcihahcchaa", sum := "03e161edab45ab787354e11f0f705c356087d87b63d284d4a65619b26e4dfeb6", func := "turbary/turbarylaw07.BulkCorners", spec := "bulkCorners", unfollowed := true, recurses := true, apart := false, narrowed := true }
def BulkCornersUptoSaid : Prop := bulkCornersUptoRow.holds Try.pinned (OpenSpec.upto bulkCornersSpec)

/-- 'turbarylaw07.BulkMerges', WHERE WHAT IT READS IS OF BULK AT MOST 1048576: true; the input reads as it did. -/
def bulkMergesUptoRow : OpenClaim := { program := "ytmmefcihahcchaa", sum := "03e161edab45ab787354e11f0f705c356087d87b63d284d4a65619b26e4dfeb6", func := "turbary/turbarylaw07.BulkMerges", spec := "bulkMerges", unfollowed := true, recurses := true, apart := false, narrowed := true }
def BulkMergesUptoSaid : Prop := bulkMergesUptoRow.holds Try.pinned (OpenSpec.upto bulkMergesSpec)

/-- 'turbarylaw07.BulkPlans', WHERE WHAT IT READS IS OF BULK AT MOST 1048576: true; the input reads as it did. -/
def bulkPlansUptoRow : OpenClaim := { program := "ytmmefcihahcchaa", sum := "03e161edab45ab787354e11f0f705c356087d87b63d284d4a65619b26e4dfeb6", func := "turbary/turbarylaw07.BulkPlans", spec := "bulkPlans", unfollowed := true, recurses := true, apart := false, narrowed := true }
def BulkPlansUptoSaid : Prop := bulkPlansUptoRow.holds Try.pinned (OpenSpec.upto bulkPlansSpec)

/-- 'turbarylaw07.BulkRounds', WHERE WHAT IT READS IS OF BULK AT MOST 1048576: true; the input reads as it did. -/
def bulkRoundsUptoRow : OpenClaim := { program := "ytmmefcihahcchaa", sum := "03e161edab45ab787354e11f0f705c356087d87b63d284d4a65619b26e4dfeb6", func := "turbary/turbarylaw07.BulkRounds", spec := "bulkRounds", unfollowed := true, recurses := true, apart := false, narrowed := true }
def BulkRoundsUptoSaid : Prop := bulkRoundsUptoRow.holds Try.pinned (OpenSpec.upto bulkRoundsSpec)

/-- 'turbarylaw07.BulkBest', WHERE WHAT IT READS IS OF BULK AT MOST 1048576: true; the input reads as it did. -/
def bulkBestUptoRow : OpenClaim := { program := "ytmmefcihahcchaa", sum := "03e161edab45ab787354e11f0f705c356087d87b63d284d4a65619b26e4dfeb6", func := "turbary/turbarylaw07.BulkBest", spec := "bulkBest", unfollowed := true, recurses := true, apart := false, narrowed := true }
def BulkBestUptoSaid : Prop := bulkBestUptoRow.holds Try.pinned (OpenSpec.upto bulkBestSpec)

/-- 'turbarylaw07.BulkAdds', WHERE WHAT IT READS IS OF BULK AT MOST 1048576: true; the input reads as it did. -/
def bulkAddsUptoRow : OpenClaim := { program := "ytmmefcihahcchaa", sum := "03e161edab45ab787354e11f0f705c356087d87b63d284d4a65619b26e4dfeb6", func := "turbary/turbarylaw07.BulkAdds", spec := "bulkAdds", unfollowed := true, recurses := true, apart := false, narrowed := true }
def BulkAddsUptoSaid : Prop := bulkAddsUptoRow.holds Try.pinned (OpenSpec.upto bulkAddsSpec)

/-- 'turbarylaw07.BulkTurns', WHERE WHAT IT READS IS OF BULK AT MOST 1048576: true; the input reads as it did. -/
def bulkTurnsUptoRow : OpenClaim := { program := "ytmmefcihahcchaa", sum := "03e161edab45ab787354e11f0f705c356087d87b63d284d4a65619b26e4dfeb6", func := "turbary/turbarylaw07.BulkTurns", spec := "bulkTurns", unfollowed := true, recurses := true, apart := false, narrowed := true }
def BulkTurnsUptoSaid : Prop := bulkTurnsUptoRow.holds Try.pinned (OpenSpec.upto bulkTurnsSpec)

/-- 'turbarylaw07.BulkSquares', WHERE WHAT IT READS IS OF BULK AT MOST 1048576: true; the input reads as it did. -/
def bulkSquaresUptoRow : OpenClaim := { program := "ytmmefcihahcchaa", sum := "03e161edab45ab787354e11f0f705c356087d87b63d284d4a65619b26e4dfeb6", func := "turbary/turbarylaw07.BulkSquares", spec := "bulkSquares", unfollowed := true, recurses := true, apart := false, narrowed := true }
def BulkSquaresUptoSaid : Prop := bulkSquaresUptoRow.holds Try.pinned (OpenSpec.upto bulkSquaresSpec)

/-- 'turbarylaw07.BulkAlong', WHERE WHAT IT READS IS OF BULK AT MOST 1048576: true; the input reads as it did. -/
def bulkAlongUptoRow : OpenClaim := { program := "ytmmefcihahcchaa", sum := "03e161edab45ab787354e11f0f705c356087d87b63d284d4a65619b26e4dfeb6", func := "turbary/turbarylaw07.BulkAlong", spec := "bulkAlong", unfollowed := true, recurses := true, apart := false, narrowed := true }
def BulkAlongUptoSaid : Prop := bulkAlongUptoRow.holds Try.pinned (OpenSpec.upto bulkAlongSpec)

/-- 'turbarytop.TopPlans', WHERE WHAT IT READS IS OF BULK AT MOST 1048576: true; the input reads as it did. -/
def topPlansUptoRow : OpenClaim := { program := "ytmmefcihahcchaa", sum := "03e161edab45ab787354e11f0f705c356087d87b63d284d4a65619b26e4dfeb6", func := "turbary/turbarytop.TopPlans", spec := "topPlans", unfollowed := true, recurses := true, apart := false, narrowed := true }
def TopPlansUptoSaid : Prop := topPlansUptoRow.holds Try.pinned (OpenSpec.upto topPlansSpec)

end Rows
end Go.Proofs.Ytmmefcihahcchaa
