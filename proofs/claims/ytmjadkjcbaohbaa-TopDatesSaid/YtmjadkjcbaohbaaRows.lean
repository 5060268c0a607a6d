/-
  No cell of these rows narrows 'for every input' (looked for: loops, veiled, ifaces, maps, wideKeys, modest, calm, conditions, laid).
  DERIVED. THE GIVEN ROWS OF THIS SEAT. 14 by the template 'for every input the law returns true; each argument reads behind the call as it read before'; 0 by the template 'total and deterministic' (their statements: YtmjadkjcbaohbaaTotals.lean).
  GIVEN WITH THE SEED: the statements are not yours to turn. If you find one false, say at which input.
  Laid BY PROGRAM, IN A SANDBOX (cutbox-rows.mjs): the forced cells as the released guide's own fill.sh prints them over the translation 277e4d7fca8877ab… (all of the seat's roots in one cut). By AI agents, Wed Nov 11 2026. No macro, syntax, notation, axiom, sorry.
-/
import Derived.Test.YtmjadkjcbaohbaaChecked
import GoSem.Claim
import GoSem.ClaimJoined
import GoSem.ClaimMapViews
import Derived.JoinedTies
import Derived.KernelRfl
namespace Go.Proofs.Ytmjadkjcbaohbaa
/- THE CELL 'sum', in the pinned program and in every row, IS THE sha256 OF THE DUMP (.gsa) THAT YtmjadkjcbaohbaaProg.lean LOADS. Nothing in Lean hashes anything: it is a label: what it is worth is what the hold of that sum in a sandbox is worth. -/
noncomputable def Try.pinned : Pinned := { name := "ytmjadkjcbaohbaa", sum := "277e4d7fca8877ab62ebfcb0a1e4ac49f5edd65be359afb3a847eeff5868089c", checked := Try.checked }
namespace Rows
def none {H : Type} : Left H := { results := [], args := [] }

/-- 'turbarylaw03.CoreFollows': WHATEVER THE INPUT: true; the input reads as it did. -/
def coreFollowsSpec : ChangeSpec := { name := "coreFollows", fn := fun _ => fun
  | [d1, d2] => { results := [.lit (.bool true)], args := [d1, d2] }
  | _ => none }
def coreFollowsRow : OpenClaim := { program := "ytmjadkjcbaohbaa", sum := "277e4d7fca8877ab62ebfcb0a1e4ac49f5edd65be359afb3a847eeff5868089c", func := "turbary/turbarylaw03.CoreFollows", spec := "coreFollows", apart := false }
def CoreFollowsSaid : Prop := coreFollowsRow.holds Try.pinned (OpenSpec.ofChange coreFollowsSpec)

/-- ITS FALSE NEIGHBOUR: 'it returns false'. Refute it at one input. -/
def coreFollowsWrong : ChangeSpec := { name := "coreFollows", fn := fun _ => fun
  | [d1, d2] => { results := [.lit (.bool false)], args := [d1, d2] }
  | _ => none }
def CoreFollowsWrongFalsely : Prop := coreFollowsRow.holds Try.pinned (OpenSpec.ofChange coreFollowsWrong)

/-- 'turbarylaw03.CoreTightest': WHATEVER THE INPUT: true; the input reads as it did. -/
def coreTightestSpec : ChangeSpec := { name := "coreTightest", fn := fun _ => fun
  | [d1, d2] => { results := [.lit (.bool true)], args := [d1, d2] }
  | _ => none }
def coreTightestRow : OpenClaim := { program := "ytmjadkjcbaohbaa", sum := "277e4d7fca8877ab62ebfcb0a1e4ac49f5edd65be359afb3a847eeff5868089c", func := "turbary/turbarylaw03.CoreTightest", spec := "coreTightest", apart := false }
def CoreTightestSaid : Prop := coreTightestRow.holds Try.pinned (OpenSpec.ofChange coreTightestSpec)

/-- ITS FALSE NEIGHBOUR: 'it returns false'. Refute it at one input. -/
def coreTightestWrong : ChangeSpec := { name := "coreTightest", fn := fun _ => fun
  | [d1, d2] => { results := [.lit (.bool false)], args := [d1, d2] }
  | _ => none }
def CoreTightestWrongFalsely : Prop := coreTightestRow.holds Try.pinned (OpenSpec.ofChange coreTightestWrong)

/-- 'turbarylaw03.CoreMarks': WHATEVER THE INPUT: true; the input reads as it did. -/
def coreMarksSpec : ChangeSpec := { name := "coreMarks", fn := fun _ => fun
  | [d1, d2] => { results := [.lit (.bool true)], args := [d1, d2] }
  | _ => none }
def coreMarksRow : OpenClaim := { program := "ytmjadkjcbaohbaa", sum := "277e4d7fca8877ab62ebfcb0a1e4ac49f5edd65be359afb3a847eeff5868089c", func := "turbary/turbarylaw03.CoreMarks", spec := "coreMarks", apart := false }
def CoreMarksSaid : Prop := coreMarksRow.holds Try.pinned (OpenSpec.ofChange coreMarksSpec)

/-- ITS FALSE NEIGHBOUR: 'it returns false'. Refute it at one input. -/
def coreMarksWrong : ChangeSpec := { name := "coreMarks", fn := fun _ => fun
  | [d1, d2] => { results := [.lit (.bool false)], args := [d1, d2] }
  | _ => none }
def CoreMarksWrongFalsely : Prop := coreMarksRow.holds Try.pinned (OpenSpec.ofChange coreMarksWrong)

/-- 'turbarylaw03.CoreTurns': WHATEVER THE INPUT: true; the input reads as it did. -/
def coreTurnsSpec : ChangeSpec := { name := "coreTurns", fn := fun _ => fun
  | [d1, d2] => { results := [.lit (.bool true)], args := [d1, d2] }
  | _ => none }
def coreTurnsRow : OpenClaim := { program := "ytmjadkjcbaohbaa", sum := "277e4d7fca8877ab62ebfcb0a1e4ac49f5edd65be359afb3a847eeff5868089c", func := "turbary/turbarylaw03.CoreTurns", spec := "coreTurns", unfollowed := true, recurses := true, apart := false }
def CoreTurnsSaid : Prop := coreTurnsRow.holds Try.pinned (OpenSpec.ofChange coreTurnsSpec)

/-- ITS FALSE NEIGHBOUR: 'it returns false'. Refute it at one input. -/
def coreTurnsWrong : ChangeSpec := { name := "coreTurns", fn := fun _ => fun
  | [d1, d2] => { results := [.lit (.bool false)], args := [d1, d2] }
  | _ => none }
def CoreTurnsWrongFalsely : Prop := coreTurnsRow.holds Try.pinned (OpenSpec.ofChange coreTurnsWrong)

/-- 'turbarylaw03.CoreKeeps': WHATEVER THE INPUT: true; the input reads as it did. -/
def coreKeepsSpec : ChangeSpec := { name := "coreKeeps", fn := fun _ => fun
  | [d1, d2, d3] => { results := [.lit (.bool true)], args := [d1, d2, d3] }
  | _ => none }
def coreKeepsRow : OpenClaim := { program := "ytmjadkjcbaohbaa", sum := "277e4d7fca8877ab62ebfcb0a1e4ac49f5edd65be359afb3a847eeff5868089c", func := "turbary/turbarylaw03.CoreKeeps", spec := "coreKeeps", unfollowed := true, recurses := true, apart := false }
def CoreKeepsSaid : Prop := coreKeepsRow.holds Try.pinned (OpenSpec.ofChange coreKeepsSpec)

/-- ITS FALSE NEIGHBOUR: 'it returns false'. Refute it at one input. -/
def coreKeepsWrong : ChangeSpec := { name := "coreKeeps", fn := fun _ => fun
  | [d1, d2, d3] => { results := [.lit (.bool false)], args := [d1, d2, d3] }
  | _ => none }
def CoreKeepsWrongFalsely : Prop := coreKeepsRow.holds Try.pinned (OpenSpec.ofChange coreKeepsWrong)

/-- 'turbarylaw03.CoreDates': WHATEVER THE INPUT: true; the input reads as it did. -/
def coreDatesSpec : ChangeSpec := { name := "coreDates", fn := fun _ => fun
  | [d1, d2] => { results := [.lit (.bool true)], args := [d1, d2] }
  | _ => none }
def coreDatesRow : OpenClaim := { program := "ytmjadkjcbaohbaa", sum := "277e4d7fca8877ab62ebfcb0a1e4ac49f5edd65be359afb3a847eeff5868089c", func := "turbary/turbarylaw03.CoreDates", spec := "coreDates", unfollowed := true, recurses := true, apart := false }
def CoreDatesSaid : Prop := coreDatesRow.holds Try.pinned (OpenSpec.ofChange coreDatesSpec)

/-- ITS FALSE NEIGHBOUR: 'it returns false'. Refute it at one input. -/
def coreDatesWrong : ChangeSpec := { name := "coreDates", fn := fun _ => fun
  | [d1, d2] => { results := [.lit (.bool false)], args := [d1, d2] }
  | _ => none }
def CoreDatesWrongFalsely : Prop := coreDatesRow.holds Try.pinned (OpenSpec.ofChange coreDatesWrong)

/-- 'turbarylaw03.CoreClashes': WHATEVER THE INPUT: true; the input reads as it did. -/
def coreClashesSpec : ChangeSpec := { name := "coreClashes", fn := fun _ => fun
  | [d1, d2] => { results := [.lit (.bool true)], args := [d1, d2] }
  | _ => none }
def coreClashesRow : OpenClaim := { program := "ytmjadkjcbaohbaa", sum := "277e4d7fca8877ab62ebfcb0a1e4ac49f5edd65be359afb3a847eeff5868089c", func := "turbary/turbarylaw03.CoreClashes", spec := "coreClashes", apart := false }
def CoreClashesSaid : Prop := coreClashesRow.holds Try.pinned (OpenSpec.ofChange coreClashesSpec)

/-- ITS FALSE NEIGHBOUR: 'it returns false'. Refute it at one input. -/
def coreClashesWrong : ChangeSpec := { name := "coreClashes", fn := fun _ => fun
  | [d1, d2] => { results := [.lit (.bool false)], args := [d1, d2] }
  | _ => none }
def CoreClashesWrongFalsely : Prop := coreClashesRow.holds Try.pinned (OpenSpec.ofChange coreClashesWrong)

/-- 'turbarylaw03.CoreShifts': WHATEVER THE INPUT: true; the input reads as it did. -/
def coreShiftsSpec : ChangeSpec := { name := "coreShifts", fn := fun _ => fun
  | [d1, d2, d3] => { results := [.lit (.bool true)], args := [d1, d2, d3] }
  | _ => none }
def coreShiftsRow : OpenClaim := { program := "ytmjadkjcbaohbaa", sum := "277e4d7fca8877ab62ebfcb0a1e4ac49f5edd65be359afb3a847eeff5868089c", func := "turbary/turbarylaw03.CoreShifts", spec := "coreShifts", unfollowed := true, recurses := true, apart := false }
def CoreShiftsSaid : Prop := coreShiftsRow.holds Try.pinned (OpenSpec.ofChange coreShiftsSpec)

/-- ITS FALSE NEIGHBOUR: 'it returns false'. Refute it at one input. -/
def coreShiftsWrong : ChangeSpec := { name := "coreShifts", fn := fun _ => fun
  | [d1, d2, d3] => { results := [.lit (.bool false)], args := [d1, d2, d3] }
  | _ => none }
def CoreShiftsWrongFalsely : Prop := coreShiftsRow.holds Try.pinned (OpenSpec.ofChange coreShiftsWrong)

/-- 'turbarylaw03.CoreBoths': WHATEVER THE INPUT: true; the input reads as it did. -/
def coreBothsSpec : ChangeSpec := { name := "coreBoths", fn := fun _ => fun
  | [d1, d2, d3] => { results := [.lit (.bool true)], args := [d1, d2, d3] }
  | _ => none }
def coreBothsRow : OpenClaim := { program := "ytmjadkjcbaohbaa", sum := "277e4d7fca8877ab62ebfcb0a1e4ac49f5edd65be359afb3a847eeff5868089c", func := "turbary/turbarylaw03.CoreBoths", spec := "coreBoths", unfollowed := true, recurses := true, apart := false }
def CoreBothsSaid : Prop := coreBothsRow.holds Try.pinned (OpenSpec.ofChange coreBothsSpec)

/-- ITS FALSE NEIGHBOUR: 'it returns false'. Refute it at one input. -/
def coreBothsWrong : ChangeSpec := { name := "coreBoths", fn := fun _ => fun
  | [d1, d2, d3] => { results := [.lit (.bool false)], args := [d1, d2, d3] }
  | _ => none }
def CoreBothsWrongFalsely : Prop := coreBothsRow.holds Try.pinned (OpenSpec.ofChange coreBothsWrong)

/-- 'turbarylaw03.CoreEither': WHATEVER THE INPUT: true; the input reads as it did. -/
def coreEitherSpec : ChangeSpec := { name := "coreEither", fn := fun _ => fun
  | [d] => { results := [.lit (.bool true)], args := [d] }
  | _ => none }
def coreEitherRow : OpenClaim := { program := "ytmjadkjcbaohbaa", sum := "277e4d7fca8877ab62ebfcb0a1e4ac49f5edd65be359afb3a847eeff5868089c", func := "turbary/turbarylaw03.CoreEither", spec := "coreEither", unfollowed := true, recurses := true, apart := false }
def CoreEitherSaid : Prop := coreEitherRow.holds Try.pinned (OpenSpec.ofChange coreEitherSpec)

/-- ITS FALSE NEIGHBOUR: 'it returns false'. Refute it at one input. -/
def coreEitherWrong : ChangeSpec := { name := "coreEither", fn := fun _ => fun
  | [d] => { results := [.lit (.bool false)], args := [d] }
  | _ => none }
def CoreEitherWrongFalsely : Prop := coreEitherRow.holds Try.pinned (OpenSpec.ofChange coreEitherWrong)

/-- 'turbarylaw03.CorePlains': WHATEVER THE INPUT: true; the input reads as it did. -/
def corePlainsSpec : ChangeSpec := { name := "corePlains", fn := fun _ => fun
  | [d] => { results := [.lit (.bool true)], args := [d] }
  | _ => none }
def corePlainsRow : OpenClaim := { program := "ytmjadkjcbaohbaa", sum := "277e4d7fca8877ab62ebfcb0a1e4ac49f5edd65be359afb3a847eeff5868089c", func := "turbary/turbarylaw03.CorePlains", spec := "corePlains", unfollowed := true, recurses := true, apart := false }
def CorePlainsSaid : Prop := corePlainsRow.holds Try.pinned (OpenSpec.ofChange corePlainsSpec)

/-- ITS FALSE NEIGHBOUR: 'it returns false'. Refute it at one input. -/
def corePlainsWrong : ChangeSpec := { name := "corePlains", fn := fun _ => fun
  | [d] => { results := [.lit (.bool false)], args := [d] }
  | _ => none }
def CorePlainsWrongFalsely : Prop := corePlainsRow.holds Try.pinned (OpenSpec.ofChange corePlainsWrong)

/-- 'turbarylaw03.CoreSames': WHATEVER THE INPUT: true; the input reads as it did. -/
def coreSamesSpec : ChangeSpec := { name := "coreSames", fn := fun _ => fun
  | [d1, d2] => { results := [.lit (.bool true)], args := [d1, d2] }
  | _ => none }
def coreSamesRow : OpenClaim := { program := "ytmjadkjcbaohbaa", sum := "277e4d7fca8877ab62ebfcb0a1e4ac49f5edd65be359afb3a847eeff5868089c", func := "turbary/turbarylaw03.CoreSames", spec := "coreSames", unfollowed := true, recurses := true, apart := false }
def CoreSamesSaid : Prop := coreSamesRow.holds Try.pinned (OpenSpec.ofChange coreSamesSpec)

/-- ITS FALSE NEIGHBOUR: 'it returns false'. Refute it at one input. -/
def coreSamesWrong : ChangeSpec := { name := "coreSames", fn := fun _ => fun
  | [d1, d2] => { results := [.lit (.bool false)], args := [d1, d2] }
  | _ => none }
def CoreSamesWrongFalsely : Prop := coreSamesRow.holds Try.pinned (OpenSpec.ofChange coreSamesWrong)

/-- 'turbarylaw03.CoreReduces': WHATEVER THE INPUT: true; the input reads as it did. -/
def coreReducesSpec : ChangeSpec := { name := "coreReduces", fn := fun _ => fun
  | [d] => { results := [.lit (.bool true)], args := [d] }
  | _ => none }
def coreReducesRow : OpenClaim := { program := "ytmjadkjcbaohbaa", sum := "277e4d7fca8877ab62ebfcb0a1e4ac49f5edd65be359afb3a847eeff5868089c", func := "turbary/turbarylaw03.CoreReduces", spec := "coreReduces", unfollowed := true, recurses := true, apart := false }
def CoreReducesSaid : Prop := coreReducesRow.holds Try.pinned (OpenSpec.ofChange coreReducesSpec)

/-- ITS FALSE NEIGHBOUR: 'it returns false'. Refute it at one input. -/
def coreReducesWrong : ChangeSpec := { name := "coreReduces", fn := fun _ => fun
  | [d] => { results := [.lit (.bool false)], args := [d] }
  | _ => none }
def CoreReducesWrongFalsely : Prop := coreReducesRow.holds Try.pinned (OpenSpec.ofChange coreReducesWrong)

/-- 'turbarytop.TopDates': WHATEVER THE INPUT: true; the input reads as it did. -/
def topDatesSpec : ChangeSpec := { name := "topDates", fn := fun _ => fun
  | [d1, d2, d3] => { results := [.lit (.bool true)], args := [d1, d2, d3] }
  | _ => none }
def topDatesRow : OpenClaim := { program := "ytmjadkjcbaohbaa", sum := "277e4d7fca8877ab62ebfcb0a1e4ac49f5edd65be359afb3a847eeff5868089c", func := "turbary/turbarytop.TopDates", spec := "topDates", unfollowed := true, recurses := true, apart := false }
def TopDatesSaid : Prop := topDatesRow.holds Try.pinned (OpenSpec.ofChange topDatesSpec)

/-- ITS FALSE NEIGHBOUR: 'it returns false'. Refute it at one input. -/
def topDatesWrong : ChangeSpec := { name := "topDates", fn := fun _ => fun
  | [d1, d2, d3] => { results := [.lit (.bool false)], args := [d1, d2, d3] }
  | _ => none }
def TopDatesWrongFalsely : Prop := topDatesRow.holds Try.pinned (OpenSpec.ofChange topDatesWrong)

/- THE SECOND FORM. 'bulk': how many values and letters a reading holds, each counted each time it is reached (what is shared counts as often as it is met; a slice's spare places count too). A statement '..UptoSaid' is the law's where the arguments, and the package variables that the reading takes, are together of bulk at most 1048576: NARROWER than '..Said'. Prove '..Said' where nothing that the law and all that it calls make is longer than what came in: it says more and counts as full. Else prove '..UptoSaid'. A law counts once. -/
mutual
def uptoBulk {H : Type} : DataW H → Nat
  | .lit (.string bytes) => bytes.length + 1
  | .lit _ => 1
  | .nil => 1
  | .ptr d => uptoBulk d + 1
  | .slice elems spare => uptoBulkAll elems + uptoBulkAll spare + 1
  | .agg parts => uptoBulkAll parts + 1
  | .iface _ d => uptoBulk d + 1
  | .map entries => uptoBulkEntries entries + 1
  | .held _ => 1
def uptoBulkAll {H : Type} : List (DataW H) → Nat
  | [] => 0
  | d :: r => uptoBulk d + uptoBulkAll r
def uptoBulkEntries {H : Type} : List (Lit × DataW H) → Nat
  | [] => 0
  | x :: r => uptoBulkEntry x + uptoBulkEntries r
def uptoBulkEntry {H : Type} : Lit × DataW H → Nat
  | (.string bytes, d) => bytes.length + uptoBulk d + 1
  | (_, d) => uptoBulk d + 1
 end
def uptoSmall : (H : Type) → List (DataW H) → Bool := fun _ ds => decide (uptoBulkAll ds ≤ 1048576)
def OpenSpec.upto (s : _root_.Go.ChangeSpec) : _root_.Go.OpenSpec := { _root_.Go.OpenSpec.ofChange s with cond := some uptoSmall }

/-- 'turbarylaw03.CoreFollows', WHERE WHAT IT READS IS OF BULK AT MOST 1048576: true; the input reads as it did. -/
def coreFollowsUptoRow : OpenClaim := { program := "ytmjadkjcbaohbaa", sum := "277e4d7fca8877ab62ebfcb0a1e4ac49f5edd65be359afb3a847eeff5868089c", func := "turbary/turbarylaw03.CoreFollows", spec := "coreFollows", apart := false, narrowed := true }
def CoreFollowsUptoSaid : Prop := coreFollowsUptoRow.holds Try.pinned (OpenSpec.upto coreFollowsSpec)

/-- 'turbarylaw03.CoreTightest', WHERE WHAT IT READS IS OF BULK AT MOST 1048576: true; the input reads as it did. -/
def coreTightestUptoRow : OpenClaim := { program := "ytmjadkjcbaohbaa", sum := "277e4d7fca8877ab62ebfcb0a1e4ac49f5edd65be359afb3a847eeff5868089c", func := "turbary/turbarylaw03.CoreTightest", spec := "coreTightest", apart := false, narrowed := true }
def CoreTightestUptoSaid : Prop := coreTightestUptoRow.holds Try.pinned (OpenSpec.upto coreTightestSpec)

/-- 'turbarylaw03.CoreMarks', WHERE WHAT IT READS IS OF BULK AT MOST 1048576: true; the input reads as it did. -/
def coreMarksUptoRow : OpenClaim := { program := "ytmjadkjcbaohbaa", sum := "277e4d7fca8877ab62ebfcb0a1e4ac49f5edd65be359afb3a847eeff5868089c", func := "turbary/turbarylaw03.CoreMarks", spec := "coreMarks", apart := false, narrowed := true }
def CoreMarksUptoSaid : Prop := coreMarksUptoRow.holds Try.pinned (OpenSpec.upto coreMarksSpec)

/-- 'turbarylaw03.CoreTurns', WHERE WHAT IT READS IS OF BULK AT MOST 1048576: true; the input reads as it did. -/
def coreTurnsUptoRow : OpenClaim := { program := "ytmjadkjcbaohbaa", sum := "277e4d7fca8877ab62ebfcb0a1e4ac49f5edd65be359afb3a847eeff5868089c", func := "turbary/turbarylaw03.CoreTurns", spec := "coreTurns", unfollowed := true, recurses := true, apart := false, narrowed := true }
def CoreTurnsUptoSaid : Prop := coreTurnsUptoRow.holds Try.pinned (OpenSpec.upto coreTurnsSpec)

/-- 'turbarylaw03.CoreKeeps', WHERE WHAT IT READS IS OF BULK AT MOST 1048576: true; the input reads as it did. -/
def coreKeepsUptoRow : OpenClaim := { program := "ytmjadkjcbaohbaa", sum := "277e4d7fca8877ab62ebfcb0a1e4ac49f5edd65be359afb3a847eeff5868089c", func := "turbary/turbarylaw03.CoreKeeps", spec := "coreKeeps", unfollowed := true, recurses := true, apart := false, narrowed := true }
def CoreKeepsUptoSaid : Prop := coreKeepsUptoRow.holds Try.pinned (OpenSpec.upto coreKeepsSpec)

/-- 'turbarylaw03.CoreDates', WHERE WHAT IT READS IS OF BULK AT MOST 1048576: true; the input reads as it did. -/
def coreDatesUptoRow : OpenClaim := { program := "ytmjadkjcbaohbaa", sum := "277e4d7fca8877ab62ebfcb0a1e4ac49f5edd65be359afb3a847eeff5868089c", func := "turbary/turbarylaw03.CoreDates", spec := "coreDates", unfollowed := true, recurses := true, apart := false, narrowed := true }
def CoreDatesUptoSaid : Prop := coreDatesUptoRow.holds Try.pinned (OpenSpec.upto coreDatesSpec)

/-- 'turbarylaw03.CoreClashes', WHERE WHAT IT READS IS OF BULK AT MOST 1048576: true; the input reads as it did. -/
def coreClashesUptoRow : OpenClaim := { program := "ytmjadkjcbaohbaa", sum := "277e4d7fca8877ab62ebfcb0a1e4ac49f5edd65be359afb3a847eeff5868089c", func := "turbary/turbarylaw03.CoreClashes", spec := "coreClashes", apart := false, narrowed := true }
def CoreClashesUptoSaid : Prop := coreClashesUptoRow.holds Try.pinned (OpenSpec.upto coreClashesSpec)

/-- 'turbarylaw03.CoreShifts', WHERE WHAT IT READS IS OF BULK AT MOST 1048576: true; the input reads as it did. -/
def coreShiftsUptoRow : OpenClaim := { program := "ytmjadkjcbaohbaa", sum := "277e4d7fca8877ab62ebfcb0a1e4ac49f5edd65be359afb3a847eeff5868089c", func := "turbary/turbarylaw03.CoreShifts", spec := "coreShifts", unfollowed := true, recurses := true, apart := false, narrowed := true }
def CoreShiftsUptoSaid : Prop := coreShiftsUptoRow.holds Try.pinned (OpenSpec.upto coreShiftsSpec)

/-- 'turbarylaw03.CoreBoths', WHERE WHAT IT READS IS OF BULK AT MOST 1048576: true; the input reads as it did. -/
def coreBothsUptoRow : OpenClaim := { program := "ytmjadkjcbaohbaa", sum := "277e4d7fca8877ab62ebfcb0a1e4ac49f5edd65be359afb3a847eeff5868089c", func := "turbary/turbarylaw03.CoreBoths", spec := "coreBoths", unfollowed := true, recurses := true, apart := false, narrowed := true }
def CoreBothsUptoSaid : Prop := coreBothsUptoRow.holds Try.pinned (OpenSpec.upto coreBothsSpec)

/-- 'turbarylaw03.CoreEither', WHERE WHAT IT READS IS OF BULK AT MOST 1048576: true; the input reads as it did. -/
def coreEitherUptoRow : OpenClaim := { program := "ytmjadkjcbaohbaa", sum := "277e4d7fca8877ab62ebfcb0a1e4ac49f5edd65be359afb3a847eeff5868089c", func := "turbary/turbarylaw03.CoreEither", spec := "coreEither", unfollowed := true, recurses := true, apart := false, narrowed := true }
def CoreEitherUptoSaid : Prop := coreEitherUptoRow.holds Try.pinned (OpenSpec.upto coreEitherSpec)

/-- 'turbarylaw03.CorePlains', WHERE WHAT IT READS IS OF BULK AT MOST 1048576: true; the input reads as it did. -/
def corePlainsUptoRow : OpenClaim := { program := "ytmjadkjcbaohbaa", sum := "277e4d7fca8877ab62ebfcb0a1e4ac49f5edd65be359afb3a847eeff5868089c", func := "turbary/turbarylaw03.CorePlains", spec := "corePlains", unfollowed := true, recurses := true, apart := false, narrowed := true }
def CorePlainsUptoSaid : Prop := corePlainsUptoRow.holds Try.pinned (OpenSpec.upto corePlainsSpec)

/-- 'turbarylaw03.CoreSames', WHERE WHAT IT READS IS OF BULK AT MOST 1048576: true; the input reads as it did. -/
def coreSamesUptoRow : OpenClaim := { program := "ytmjadkjcbaohbaa", sum := "277e4d7fca8877ab62ebfcb0a1e4ac49f5edd65be359afb3a847eeff5868089c", func := "turbary/turbarylaw03.CoreSames", spec := "coreSames", unfollowed := true, recurses := true, apart := false, narrowed := true }
def CoreSamesUptoSaid : Prop := coreSamesUptoRow.holds Try.pinned (OpenSpec.upto coreSamesSpec)

/-- 'turbarylaw03.CoreReduces', WHERE WHAT IT READS IS OF BULK AT MOST 1048576: true; the input reads as it did. -/
def coreReducesUptoRow : OpenClaim := { program := "ytmjadkjcbaohbaa", sum := "277e4d7fca8877ab62ebfcb0a1e4ac49f5edd65be359afb3a847eeff5868089c", func := "turbary/turbarylaw03.CoreReduces", spec := "coreReduces", unfollowed := true, recurses := true, apart := false, narrowed := true }
def CoreReducesUptoSaid : Prop := coreReducesUptoRow.holds Try.pinned (OpenSpec.upto coreReducesSpec)

/-- 'turbarytop.TopDates', WHERE WHAT IT READS IS OF BULK AT MOST 1048576: true; the input reads as it did. -/
def topDatesUptoRow : OpenClaim := { program := "ytmjadkjcbaohbaa", sum := "277e4d7fca8877ab62ebfcb0a1e4ac49f5edd65be359afb3a847eeff5868089c", func := "turbary/turbarytop.TopDates", spec := "topDates", unfollowed := true, recurses := true, apart := false, narrowed := true }
def TopDatesUptoSaid : Prop := topDatesUptoRow.holds Try.pinned (OpenSpec.upto topDatesSpec)

end Rows
end Go.Proofs.Ytmjadkjcbaohbaa
