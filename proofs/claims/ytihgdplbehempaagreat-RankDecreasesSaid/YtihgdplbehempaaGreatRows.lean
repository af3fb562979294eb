/-
  No cell of these rows narrows 'for every input' (looked for: loops, veiled, ifaces, maps, wideKeys, modest, calm, conditions, laid).
  DERIVED. THE GIVEN ROWS OF THIS SEAT. 15 by the template 'for every input the law returns true; each argument reads behind the call as it read before'; 0 by the template 'total and deterministic' (their statements: YtihgdplbehempaaGreatTotals.lean).
  GIVEN WITH THE SEED: the statements are not yours to turn. If you find one false, say at which input.
  Laid BY PROGRAM, IN A SANDBOX (cutbox-rows.mjs): the forced cells as the released guide's own fill.sh prints them over the translation d268ba4a76719286… (all of the seat's roots in one cut). By AI agents, Wed Nov 11 2026. No macro, syntax, notation, axiom, sorry.
-/
import Derived.Test.YtihgdplbehempaaGreatChecked
import GoSem.Claim
import GoSem.ClaimJoined
import GoSem.ClaimMapViews
import Derived.JoinedTies
import Derived.KernelRfl
namespace Go.Proofs.YtihgdplbehempaaGreat
/- THE CELL 'sum', in the pinned program and in every row, IS THE sha256 OF THE DUMP (.gsa) THAT YtihgdplbehempaaGreatProg.lean LOADS. Nothing in Lean hashes anything: it is a label: what it is worth is what the hold of that sum in a sandbox is worth. -/
noncomputable def Tryz.pinned : Pinned := { name := "ytihgdplbehempaagreat", sum := "d268ba4a767192860340c2cb4adf6b7e6f4b195bd49d04a3a7bbbe555d1dc28c", checked := Tryz.checked }
namespace Rows
def none {H : Type} : Left H := { results := [], args := [] }

/-- 'dwindlelaw25.LinearSolves': WHATEVER THE INPUT: true; the input reads as it did. -/
def linearSolvesSpec : ChangeSpec := { name := "linearSolves", fn := fun _ => fun
  | [d1, d2] => { results := [.lit (.bool true)], args := [d1, d2] }
  | _ => none }
def linearSolvesRow : OpenClaim := { program := "ytihgdplbehempaagreat", sum := "d268ba4a767192860340c2cb4adf6b7e6f4b195bd49d04a3a7bbbe555d1dc28c", func := "dwindle/dwindlelaw25.LinearSolves", spec := "linearSolves", unfollowed := true, recurses := true, apart := false }
def LinearSolvesSaid : Prop := linearSolvesRow.holds Tryz.pinned (OpenSpec.ofChange linearSolvesSpec)

/-- ITS FALSE NEIGHBOUR: 'it returns false'. Refute it at one input. -/
def linearSolvesWrong : ChangeSpec := { name := "linearSolves", fn := fun _ => fun
  | [d1, d2] => { results := [.lit (.bool false)], args := [d1, d2] }
  | _ => none }
def LinearSolvesWrongFalsely : Prop := linearSolvesRow.holds Tryz.pinned (OpenSpec.ofChange linearSolvesWrong)

/-- 'dwindlelaw25.LinearImplies': WHATEVER THE INPUT: true; the input reads as it did. -/
def linearImpliesSpec : ChangeSpec := { name := "linearImplies", fn := fun _ => fun
  | [d1, d2, d3] => { results := [.lit (.bool true)], args := [d1, d2, d3] }
  | _ => none }
def linearImpliesRow : OpenClaim := { program := "ytihgdplbehempaagreat", sum := "d268ba4a767192860340c2cb4adf6b7e6f4b195bd49d04a3a7bbbe555d1dc28c", func := "dwindle/dwindlelaw25.LinearImplies", spec := "linearImplies", unfollowed := true, recurses := true, apart := false }
def LinearImpliesSaid : Prop := linearImpliesRow.holds Tryz.pinned (OpenSpec.ofChange linearImpliesSpec)

/-- ITS FALSE NEIGHBOUR: 'it returns false'. Refute it at one input. -/
def linearImpliesWrong : ChangeSpec := { name := "linearImplies", fn := fun _ => fun
  | [d1, d2, d3] => { results := [.lit (.bool false)], args := [d1, d2, d3] }
  | _ => none }
def LinearImpliesWrongFalsely : Prop := linearImpliesRow.holds Tryz.pinned (OpenSpec.ofChange linearImpliesWrong)

/-- 'dwindlelaw29.StuckChecks': WHATEVER THE INPUT: true; the input reads as it did. -/
def stuckChecksSpec : ChangeSpec := { name := "stuckChecks", fn := fun _ => fun
  | [d1, d2] => { results := [.lit (.bool true)], args := [d1, d2] }
  | _ => none }
def stuckChecksRow : OpenClaim := { program := "ytihgdplbehempaagreat", sum := "d268ba4a767192860340c2cb4adf6b7e6f4b195bd49d04a3a7bbbe555d1dc28c", func := "dwindle/dwindlelaw29.StuckChecks", spec := "stuckChecks", unfollowed := true, recurses := true, apart := false }
def StuckChecksSaid : Prop := stuckChecksRow.holds Tryz.pinned (OpenSpec.ofChange stuckChecksSpec)

/-- ITS FALSE NEIGHBOUR: 'it returns false'. Refute it at one input. -/
def stuckChecksWrong : ChangeSpec := { name := "stuckChecks", fn := fun _ => fun
  | [d1, d2] => { results := [.lit (.bool false)], args := [d1, d2] }
  | _ => none }
def StuckChecksWrongFalsely : Prop := stuckChecksRow.holds Tryz.pinned (OpenSpec.ofChange stuckChecksWrong)

/-- 'dwindlelaw29.StuckRuns': WHATEVER THE INPUT: true; the input reads as it did. -/
def stuckRunsSpec : ChangeSpec := { name := "stuckRuns", fn := fun _ => fun
  | [d1, d2, d3] => { results := [.lit (.bool true)], args := [d1, d2, d3] }
  | _ => none }
def stuckRunsRow : OpenClaim := { program := "ytihgdplbehempaagreat", sum := "d268ba4a767192860340c2cb4adf6b7e6f4b195bd49d04a3a7bbbe555d1dc28c", func := "dwindle/dwindlelaw29.StuckRuns", spec := "stuckRuns", unfollowed := true, recurses := true, apart := false }
def StuckRunsSaid : Prop := stuckRunsRow.holds Tryz.pinned (OpenSpec.ofChange stuckRunsSpec)

/-- ITS FALSE NEIGHBOUR: 'it returns false'. Refute it at one input. -/
def stuckRunsWrong : ChangeSpec := { name := "stuckRuns", fn := fun _ => fun
  | [d1, d2, d3] => { results := [.lit (.bool false)], args := [d1, d2, d3] }
  | _ => none }
def StuckRunsWrongFalsely : Prop := stuckRunsRow.holds Tryz.pinned (OpenSpec.ofChange stuckRunsWrong)

/-- 'dwindlelaw29.StuckFinds': WHATEVER THE INPUT: true; the input reads as it did. -/
def stuckFindsSpec : ChangeSpec := { name := "stuckFinds", fn := fun _ => fun
  | [d1, d2, d3] => { results := [.lit (.bool true)], args := [d1, d2, d3] }
  | _ => none }
def stuckFindsRow : OpenClaim := { program := "ytihgdplbehempaagreat", sum := "d268ba4a767192860340c2cb4adf6b7e6f4b195bd49d04a3a7bbbe555d1dc28c", func := "dwindle/dwindlelaw29.StuckFinds", spec := "stuckFinds", unfollowed := true, recurses := true, apart := false }
def StuckFindsSaid : Prop := stuckFindsRow.holds Tryz.pinned (OpenSpec.ofChange stuckFindsSpec)

/-- ITS FALSE NEIGHBOUR: 'it returns false'. Refute it at one input. -/
def stuckFindsWrong : ChangeSpec := { name := "stuckFinds", fn := fun _ => fun
  | [d1, d2, d3] => { results := [.lit (.bool false)], args := [d1, d2, d3] }
  | _ => none }
def StuckFindsWrongFalsely : Prop := stuckFindsRow.holds Tryz.pinned (OpenSpec.ofChange stuckFindsWrong)

/-- 'dwindlelaw28.RankChecks': WHATEVER THE INPUT: true; the input reads as it did. -/
def rankChecksSpec : ChangeSpec := { name := "rankChecks", fn := fun _ => fun
  | [d1, d2] => { results := [.lit (.bool true)], args := [d1, d2] }
  | _ => none }
def rankChecksRow : OpenClaim := { program := "ytihgdplbehempaagreat", sum := "d268ba4a767192860340c2cb4adf6b7e6f4b195bd49d04a3a7bbbe555d1dc28c", func := "dwindle/dwindlelaw28.RankChecks", spec := "rankChecks", unfollowed := true, recurses := true, apart := false }
def RankChecksSaid : Prop := rankChecksRow.holds Tryz.pinned (OpenSpec.ofChange rankChecksSpec)

/-- ITS FALSE NEIGHBOUR: 'it returns false'. Refute it at one input. -/
def rankChecksWrong : ChangeSpec := { name := "rankChecks", fn := fun _ => fun
  | [d1, d2] => { results := [.lit (.bool false)], args := [d1, d2] }
  | _ => none }
def RankChecksWrongFalsely : Prop := rankChecksRow.holds Tryz.pinned (OpenSpec.ofChange rankChecksWrong)

/-- 'dwindlelaw28.RankMeasures': WHATEVER THE INPUT: true; the input reads as it did. -/
def rankMeasuresSpec : ChangeSpec := { name := "rankMeasures", fn := fun _ => fun
  | [d1, d2, d3] => { results := [.lit (.bool true)], args := [d1, d2, d3] }
  | _ => none }
def rankMeasuresRow : OpenClaim := { program := "ytihgdplbehempaagreat", sum := "d268ba4a767192860340c2cb4adf6b7e6f4b195bd49d04a3a7bbbe555d1dc28c", func := "dwindle/dwindlelaw28.RankMeasures", spec := "rankMeasures", unfollowed := true, recurses := true, apart := false }
def RankMeasuresSaid : Prop := rankMeasuresRow.holds Tryz.pinned (OpenSpec.ofChange rankMeasuresSpec)

/-- ITS FALSE NEIGHBOUR: 'it returns false'. Refute it at one input. -/
def rankMeasuresWrong : ChangeSpec := { name := "rankMeasures", fn := fun _ => fun
  | [d1, d2, d3] => { results := [.lit (.bool false)], args := [d1, d2, d3] }
  | _ => none }
def RankMeasuresWrongFalsely : Prop := rankMeasuresRow.holds Tryz.pinned (OpenSpec.ofChange rankMeasuresWrong)

/-- 'dwindlelaw28.RankFinds': WHATEVER THE INPUT: true; the input reads as it did. -/
def rankFindsSpec : ChangeSpec := { name := "rankFinds", fn := fun _ => fun
  | [d] => { results := [.lit (.bool true)], args := [d] }
  | _ => none }
def rankFindsRow : OpenClaim := { program := "ytihgdplbehempaagreat", sum := "d268ba4a767192860340c2cb4adf6b7e6f4b195bd49d04a3a7bbbe555d1dc28c", func := "dwindle/dwindlelaw28.RankFinds", spec := "rankFinds", unfollowed := true, recurses := true, apart := false }
def RankFindsSaid : Prop := rankFindsRow.holds Tryz.pinned (OpenSpec.ofChange rankFindsSpec)

/-- ITS FALSE NEIGHBOUR: 'it returns false'. Refute it at one input. -/
def rankFindsWrong : ChangeSpec := { name := "rankFinds", fn := fun _ => fun
  | [d] => { results := [.lit (.bool false)], args := [d] }
  | _ => none }
def RankFindsWrongFalsely : Prop := rankFindsRow.holds Tryz.pinned (OpenSpec.ofChange rankFindsWrong)

/-- 'dwindlelaw28.RankComplete': WHATEVER THE INPUT: true; the input reads as it did. -/
def rankCompleteSpec : ChangeSpec := { name := "rankComplete", fn := fun _ => fun
  | [d1, d2] => { results := [.lit (.bool true)], args := [d1, d2] }
  | _ => none }
def rankCompleteRow : OpenClaim := { program := "ytihgdplbehempaagreat", sum := "d268ba4a767192860340c2cb4adf6b7e6f4b195bd49d04a3a7bbbe555d1dc28c", func := "dwindle/dwindlelaw28.RankComplete", spec := "rankComplete", unfollowed := true, recurses := true, apart := false }
def RankCompleteSaid : Prop := rankCompleteRow.holds Tryz.pinned (OpenSpec.ofChange rankCompleteSpec)

/-- ITS FALSE NEIGHBOUR: 'it returns false'. Refute it at one input. -/
def rankCompleteWrong : ChangeSpec := { name := "rankComplete", fn := fun _ => fun
  | [d1, d2] => { results := [.lit (.bool false)], args := [d1, d2] }
  | _ => none }
def RankCompleteWrongFalsely : Prop := rankCompleteRow.holds Tryz.pinned (OpenSpec.ofChange rankCompleteWrong)

/-- 'dwindlelaw28.RankCycles': WHATEVER THE INPUT: true; the input reads as it did. -/
def rankCyclesSpec : ChangeSpec := { name := "rankCycles", fn := fun _ => fun
  | [d1, d2, d3] => { results := [.lit (.bool true)], args := [d1, d2, d3] }
  | _ => none }
def rankCyclesRow : OpenClaim := { program := "ytihgdplbehempaagreat", sum := "d268ba4a767192860340c2cb4adf6b7e6f4b195bd49d04a3a7bbbe555d1dc28c", func := "dwindle/dwindlelaw28.RankCycles", spec := "rankCycles", unfollowed := true, recurses := true, apart := false }
def RankCyclesSaid : Prop := rankCyclesRow.holds Tryz.pinned (OpenSpec.ofChange rankCyclesSpec)

/-- ITS FALSE NEIGHBOUR: 'it returns false'. Refute it at one input. -/
def rankCyclesWrong : ChangeSpec := { name := "rankCycles", fn := fun _ => fun
  | [d1, d2, d3] => { results := [.lit (.bool false)], args := [d1, d2, d3] }
  | _ => none }
def RankCyclesWrongFalsely : Prop := rankCyclesRow.holds Tryz.pinned (OpenSpec.ofChange rankCyclesWrong)

/-- 'dwindlelaw28.RankLeft': WHATEVER THE INPUT: true; the input reads as it did. -/
def rankLeftSpec : ChangeSpec := { name := "rankLeft", fn := fun _ => fun
  | [d1, d2] => { results := [.lit (.bool true)], args := [d1, d2] }
  | _ => none }
def rankLeftRow : OpenClaim := { program := "ytihgdplbehempaagreat", sum := "d268ba4a767192860340c2cb4adf6b7e6f4b195bd49d04a3a7bbbe555d1dc28c", func := "dwindle/dwindlelaw28.RankLeft", spec := "rankLeft", unfollowed := true, recurses := true, apart := false }
def RankLeftSaid : Prop := rankLeftRow.holds Tryz.pinned (OpenSpec.ofChange rankLeftSpec)

/-- ITS FALSE NEIGHBOUR: 'it returns false'. Refute it at one input. -/
def rankLeftWrong : ChangeSpec := { name := "rankLeft", fn := fun _ => fun
  | [d1, d2] => { results := [.lit (.bool false)], args := [d1, d2] }
  | _ => none }
def RankLeftWrongFalsely : Prop := rankLeftRow.holds Tryz.pinned (OpenSpec.ofChange rankLeftWrong)

/-- 'dwindlelaw29.StuckEndless': WHATEVER THE INPUT: true; the input reads as it did. -/
def stuckEndlessSpec : ChangeSpec := { name := "stuckEndless", fn := fun _ => fun
  | [d1, d2, d3] => { results := [.lit (.bool true)], args := [d1, d2, d3] }
  | _ => none }
def stuckEndlessRow : OpenClaim := { program := "ytihgdplbehempaagreat", sum := "d268ba4a767192860340c2cb4adf6b7e6f4b195bd49d04a3a7bbbe555d1dc28c", func := "dwindle/dwindlelaw29.StuckEndless", spec := "stuckEndless", unfollowed := true, recurses := true, apart := false }
def StuckEndlessSaid : Prop := stuckEndlessRow.holds Tryz.pinned (OpenSpec.ofChange stuckEndlessSpec)

/-- ITS FALSE NEIGHBOUR: 'it returns false'. Refute it at one input. -/
def stuckEndlessWrong : ChangeSpec := { name := "stuckEndless", fn := fun _ => fun
  | [d1, d2, d3] => { results := [.lit (.bool false)], args := [d1, d2, d3] }
  | _ => none }
def StuckEndlessWrongFalsely : Prop := stuckEndlessRow.holds Tryz.pinned (OpenSpec.ofChange stuckEndlessWrong)

/-- 'dwindlelaw28.RankDecreases': WHATEVER THE INPUT: true; the input reads as it did. -/
def rankDecreasesSpec : ChangeSpec := { name := "rankDecreases", fn := fun _ => fun
  | [d1, d2, d3, d4, d5] => { results := [.lit (.bool true)], args := [d1, d2, d3, d4, d5] }
  | _ => none }
def rankDecreasesRow : OpenClaim := { program := "ytihgdplbehempaagreat", sum := "d268ba4a767192860340c2cb4adf6b7e6f4b195bd49d04a3a7bbbe555d1dc28c", func := "dwindle/dwindlelaw28.RankDecreases", spec := "rankDecreases", unfollowed := true, recurses := true, apart := false }
def RankDecreasesSaid : Prop := rankDecreasesRow.holds Tryz.pinned (OpenSpec.ofChange rankDecreasesSpec)

/-- ITS FALSE NEIGHBOUR: 'it returns false'. Refute it at one input. -/
def rankDecreasesWrong : ChangeSpec := { name := "rankDecreases", fn := fun _ => fun
  | [d1, d2, d3, d4, d5] => { results := [.lit (.bool false)], args := [d1, d2, d3, d4, d5] }
  | _ => none }
def RankDecreasesWrongFalsely : Prop := rankDecreasesRow.holds Tryz.pinned (OpenSpec.ofChange rankDecreasesWrong)

/-- 'dwindlelaw28.RankBounds': WHATEVER THE INPUT: true; the input reads as it did. -/
def rankBoundsSpec : ChangeSpec := { name := "rankBounds", fn := fun _ => fun
  | [d1, d2, d3, d4, d5] => { results := [.lit (.bool true)], args := [d1, d2, d3, d4, d5] }
  | _ => none }
def rankBoundsRow : OpenClaim := { program := "ytihgdplbehempaagreat", sum := "d268ba4a767192860340c2cb4adf6b7e6f4b195bd49d04a3a7bbbe555d1dc28c", func := "dwindle/dwindlelaw28.RankBounds", spec := "rankBounds", unfollowed := true, recurses := true, apart := false }
def RankBoundsSaid : Prop := rankBoundsRow.holds Tryz.pinned (OpenSpec.ofChange rankBoundsSpec)

/-- ITS FALSE NEIGHBOUR: 'it returns false'. Refute it at one input. -/
def rankBoundsWrong : ChangeSpec := { name := "rankBounds", fn := fun _ => fun
  | [d1, d2, d3, d4, d5] => { results := [.lit (.bool false)], args := [d1, d2, d3, d4, d5] }
  | _ => none }
def RankBoundsWrongFalsely : Prop := rankBoundsRow.holds Tryz.pinned (OpenSpec.ofChange rankBoundsWrong)

/-- 'dwindlelaw29.StuckExclusive': WHATEVER THE INPUT: true; the input reads as it did. -/
def stuckExclusiveSpec : ChangeSpec := { name := "stuckExclusive", fn := fun _ => fun
  | [d1, d2, d3] => { results := [.lit (.bool true)], args := [d1, d2, d3] }
  | _ => none }
def stuckExclusiveRow : OpenClaim := { program := "ytihgdplbehempaagreat", sum := "d268ba4a767192860340c2cb4adf6b7e6f4b195bd49d04a3a7bbbe555d1dc28c", func := "dwindle/dwindlelaw29.StuckExclusive", spec := "stuckExclusive", unfollowed := true, recurses := true, apart := false }
def StuckExclusiveSaid : Prop := stuckExclusiveRow.holds Tryz.pinned (OpenSpec.ofChange stuckExclusiveSpec)

/-- ITS FALSE NEIGHBOUR: 'it returns false'. Refute it at one input. -/
def stuckExclusiveWrong : ChangeSpec := { name := "stuckExclusive", fn := fun _ => fun
  | [d1, d2, d3] => { results := [.lit (.bool false)], args := [d1, d2, d3] }
  | _ => none }
def StuckExclusiveWrongFalsely : Prop := stuckExclusiveRow.holds Tryz.pinned (OpenSpec.ofChange stuckExclusiveWrong)

/- THE SECOND FORM. 'bulk': how many values and letters a reading holds, each counted each time it is reached (what is shared counts as often as it is met; a slice's spare places count too). A statement '..UptoSaid' is the law's where the arguments, and the package variables that the reading takes, are together of bulk at most 1048576: NARROWER than '..Said'. Prove '..Said' where nothing that the law and all that it calls make is longer than what came in: it says more and counts as full. Else prove '..UptoSaid'. A law counts once. -/
mutual
def uptoBulk {H : Type} : DataW H → Nat
  | .lit (.string bytes) => bytes.length + 1
  | .lit _ => 1
  | .nil => 1
  | .ptr d => uptoBulk d + 1
  | .slice elems spare => uptoBulkAll elems + uptoBulkAll spare + 1
  | .agg parts => uptoBulkAll parts + 1
  | .iface _ d => uptoBulk d + 1
  | .map entries => uptoBulkEntries entries + 1
  | .held _ => 1
def uptoBulkAll {H : Type} : List (DataW H) → Nat
  | [] => 0
  | d :: r => uptoBulk d + uptoBulkAll r
def uptoBulkEntries {H : Type} : List (Lit × DataW H) → Nat
  | [] => 0
  | x :: r => uptoBulkEntry x + uptoBulkEntries r
def uptoBulkEntry {H : Type} : Lit × DataW H → Nat
  | (.string bytes, d) => bytes.length + uptoBulk d + 1
  | (_, d) => uptoBulk d + 1
 end
def uptoSmall : (H : Type) → List (DataW H) → Bool := fun _ ds => decide (uptoBulkAll ds ≤ 1048576)
def OpenSpec.upto (s : _root_.Go.ChangeSpec) : _root_.Go.OpenSpec := { _root_.Go.OpenSpec.ofChange s with cond := some uptoSmall }

/-- 'dwindlelaw25.LinearSolves', WHERE WHAT IT READS IS OF BULK AT MOST 1048576: true; the input reads as it did. -/
def linearSolvesUptoRow : OpenClaim := { program := "ytihgdplbehempaagreat", sum := "d268ba4a767192860340c2cb4adf6b7e6f4b195bd49d04a3a7bbbe555d1dc28c", func := "dwindle/dwindlelaw25.LinearSolves", spec := "linearSolves", unfollowed := true, recurses := true, apart := false, narrowed := true }
def LinearSolvesUptoSaid : Prop := linearSolvesUptoRow.holds Tryz.pinned (OpenSpec.upto linearSolvesSpec)

/-- 'dwindlelaw25.LinearImplies', WHERE WHAT IT READS IS OF BULK AT MOST 1048576: true; the input reads as it did. -/
def linearImpliesUptoRow : OpenClaim := { program := "ytihgdplbehempaagreat", sum := "d268ba4a767192860340c2cb4adf6b7e6f4b195bd49d04a3a7bbbe555d1dc28c", func := "dwindle/dwindlelaw25.LinearImplies", spec := "linearImplies", unfollowed := true, recurses := true, apart := false, narrowed := true }
def LinearImpliesUptoSaid : Prop := linearImpliesUptoRow.holds Tryz.pinned (OpenSpec.upto linearImpliesSpec)

/-- 'dwindlelaw29.StuckChecks', WHERE WHAT IT READS IS OF BULK AT MOST 1048576: true; the input reads as it did. -/
def stuckChecksUptoRow : OpenClaim := { program := "ytihgdplbehempaagreat", sum := "d268ba4a767192860340c2cb4adf6b7e6f4b195bd49d04a3a7bbbe555d1dc28c", func := "dwindle/dwindlelaw29.StuckChecks", spec := "stuckChecks", unfollowed := true, recurses := true, apart := false, narrowed := true }
def StuckChecksUptoSaid : Prop := stuckChecksUptoRow.holds Tryz.pinned (OpenSpec.upto stuckChecksSpec)

/-- 'dwindlelaw29.StuckRuns', WHERE WHAT IT READS IS OF BULK AT MOST 1048576: true; the input reads as it did. -/
def stuckRunsUptoRow : OpenClaim := { program := "ytihgdplbehempaagreat", sum := "d268ba4a767192860340c2cb4adf6b7e6f4b195bd49d04a3a7bbbe555d1dc28c", func := "dwindle/dwindlelaw29.StuckRuns", spec := "stuckRuns", unfollowed := true, recurses := true, apart := false, narrowed := true }
def StuckRunsUptoSaid : Prop := stuckRunsUptoRow.holds Tryz.pinned (OpenSpec.upto stuckRunsSpec)

/-- 'dwindlelaw29.StuckFinds', WHERE WHAT IT READS IS OF BULK AT MOST 1048576: true; the input reads as it did. -/
def stuckFindsUptoRow : OpenClaim := { program := "ytihgdplbehempaagreat", sum := "d268ba4a767192860340c2cb4adf6b7e6f4b195bd49d04a3a7bbbe555d1dc28c", func := "dwindle/dwindlelaw29.StuckFinds", spec := "stuckFinds", unfollowed := true, recurses := true, apart := false, narrowed := true }
def StuckFindsUptoSaid : Prop := stuckFindsUptoRow.holds Tryz.pinned (OpenSpec.upto stuckFindsSpec)

/-- 'dwindlelaw28.RankChecks', WHERE WHAT IT READS IS OF BULK AT MOST 1048576: true; the input reads as it did. -/
def rankChecksUptoRow : OpenClaim := { program := "ytihgdplbehempaagreat", sum := "d268ba4a767192860340c2cb4adf6b7e6f4b195bd49d04a3a7bbbe555d1dc28c", func := "dwindle/dwindlelaw28.RankChecks", spec := "rankChecks", unfollowed := true, recurses := true, apart := false, narrowed := true }
def RankChecksUptoSaid : Prop := rankChecksUptoRow.holds Tryz.pinned (OpenSpec.upto rankChecksSpec)

/-- 'dwindlelaw28.RankMeasures', WHERE WHAT IT READS IS OF BULK AT MOST 1048576: true; the input reads as it did. -/
def rankMeasuresUptoRow : OpenClaim := { program := "ytihgdplbehempaagreat", sum := "d268ba4a767192860340c2cb4adf6b7e6f4b195bd49d04a3a7bbbe555d1dc28c", func := "dwindle/dwindlelaw28.RankMeasures", spec := "rankMeasures", unfollowed := true, recurses := true, apart := false, narrowed := true }
def RankMeasuresUptoSaid : Prop := rankMeasuresUptoRow.holds Tryz.pinned (OpenSpec.upto rankMeasuresSpec)

/-- 'dwindlelaw28.RankFinds', WHERE WHAT IT READS IS OF BULK AT MOST 1048576: true; the input reads as it did. -/
def rankFindsUptoRow : OpenClaim := { program := "ytihgdplbehempaagreat", sum := "d268ba4a767192860340c2cb4adf6b7e6f4b195bd49d04a3a7bbbe555d1dc28c", func := "dwindle/dwindlelaw28.RankFinds", spec := "rankFinds", unfollowed := true, recurses := true, apart := false, narrowed := true }
def RankFindsUptoSaid : Prop := rankFindsUptoRow.holds Tryz.pinned (OpenSpec.upto rankFindsSpec)

/-- 'dwindlelaw28.RankComplete', WHERE WHAT IT READS IS OF BULK AT MOST 1048576: true; the input reads as it did. -/
def rankCompleteUptoRow : OpenClaim := { program := "ytihgdplbehempaagreat", sum := "d268ba4a767192860340c2cb4adf6b7e6f4b195bd49d04a3a7bbbe555d1dc28c", func := "dwindle/dwindlelaw28.RankComplete", spec := "rankComplete", unfollowed := true, recurses := true, apart := false, narrowed := true }
def RankCompleteUptoSaid : Prop := rankCompleteUptoRow.holds Tryz.pinned (OpenSpec.upto rankCompleteSpec)

/-- 'dwindlelaw28.RankCycles', WHERE WHAT IT READS IS OF BULK AT MOST 1048576: true; the input reads as it did. -/
def rankCyclesUptoRow : OpenClaim := { program := "ytihgdplbehempaagreat", sum := "d268ba4a767192860340c2cb4adf6b7e6f4b195bd49d04a3a7bbbe555d1dc28c", func := "dwindle/dwindlelaw28.RankCycles", spec := "rankCycles", unfollowed := true, recurses := true, apart := false, narrowed := true }
def RankCyclesUptoSaid : Prop := rankCyclesUptoRow.holds Tryz.pinned (OpenSpec.upto rankCyclesSpec)

/-- 'dwindlelaw28.RankLeft', WHERE WHAT IT READS IS OF BULK AT MOST 1048576: true; the input reads as it did. -/
def rankLeftUptoRow : OpenClaim := { program := "ytihgdplbehempaagreat", sum := "d268ba4a767192860340c2cb4adf6b7e6f4b195bd49d04a3a7bbbe555d1dc28c", func := "dwindle/dwindlelaw28.RankLeft", spec := "rankLeft", unfollowed := true, recurses := true, apart := false, narrowed := true }
def RankLeftUptoSaid : Prop := rankLeftUptoRow.holds Tryz.pinned (OpenSpec.upto rankLeftSpec)

/-- 'dwindlelaw29.StuckEndless', WHERE WHAT IT READS IS OF BULK AT MOST 1048576: true; the input reads as it did. -/
def stuckEndlessUptoRow : OpenClaim := { program := "ytihgdplbehempaagreat", sum := "d268ba4a767192860340c2cb4adf6b7e6f4b195bd49d04a3a7bbbe555d1dc28c", func := "dwindle/dwindlelaw29.StuckEndless", spec := "stuckEndless", unfollowed := true, recurses := true, apart := false, narrowed := true }
def StuckEndlessUptoSaid : Prop := stuckEndlessUptoRow.holds Tryz.pinned (OpenSpec.upto stuckEndlessSpec)

/-- 'dwindlelaw28.RankDecreases', WHERE WHAT IT READS IS OF BULK AT MOST 1048576: true; the input reads as it did. -/
def rankDecreasesUptoRow : OpenClaim := { program := "ytihgdplbehempaagreat", sum := "d268ba4a767192860340c2cb4adf6b7e6f4b195bd49d04a3a7bbbe555d1dc28c", func := "dwindle/dwindlelaw28.RankDecreases", spec := "rankDecreases", unfollowed := true, recurses := true, apart := false, narrowed := true }
def RankDecreasesUptoSaid : Prop := rankDecreasesUptoRow.holds Tryz.pinned (OpenSpec.upto rankDecreasesSpec)

/-- 'dwindlelaw28.RankBounds', WHERE WHAT IT READS IS OF BULK AT MOST 1048576: true; the input reads as it did. -/
def rankBoundsUptoRow : OpenClaim := { program := "ytihgdplbehempaagreat", sum := "d268ba4a767192860340c2cb4adf6b7e6f4b195bd49d04a3a7bbbe555d1dc28c", func := "dwindle/dwindlelaw28.RankBounds", spec := "rankBounds", unfollowed := true, recurses := true, apart := false, narrowed := true }
def RankBoundsUptoSaid : Prop := rankBoundsUptoRow.holds Tryz.pinned (OpenSpec.upto rankBoundsSpec)

/-- 'dwindlelaw29.StuckExclusive', WHERE WHAT IT READS IS OF BULK AT MOST 1048576: true; the input reads as it did. -/
def stuckExclusiveUptoRow : OpenClaim := { program := "ytihgdplbehempaagreat", sum := "d268ba4a767192860340c2cb4adf6b7e6f4b195bd49d04a3a7bbbe555d1dc28c", func := "dwindle/dwindlelaw29.StuckExclusive", spec := "stuckExclusive", unfollowed := true, recurses := true, apart := false, narrowed := true }
def StuckExclusiveUptoSaid : Prop := stuckExclusiveUptoRow.holds Tryz.pinned (OpenSpec.upto stuckExclusiveSpec)

end Rows
end Go.Proofs.YtihgdplbehempaaGreat
