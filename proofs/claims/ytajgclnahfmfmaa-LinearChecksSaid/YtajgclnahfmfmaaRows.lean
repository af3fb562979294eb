/-
  No cell of these rows narrows 'for every input' (looked for: loops, veiled, ifaces, maps, wideKeys, modest, calm, conditions, laid).
  DERIVED. THE GIVEN ROWS OF THIS SEAT. 9 by the template 'for every input the law returns true; each argument reads behind the call as it read before'; 0 by the template 'total and deterministic' (their statements: YtajgclnahfmfmaaTotals.lean).
  GIVEN WITH THE SEED: the statements are not yours to turn. If you find one false, say at which input.
  Laid BY PROGRAM, IN A SANDBOX (cutbox-rows.mjs): the forced cells as the released guide's own fill.sh prints them over the translation f0188f4b7a88ce4d… (all of the seat's roots in one cut). By AI agents, Wed Nov 11 2026. No macro, syntax, notation, axiom, sorry.
-/
import Derived.Test.YtajgclnahfmfmaaChecked
import GoSem.Claim
import GoSem.ClaimJoined
import GoSem.ClaimMapViews
import Derived.JoinedTies
import Derived.KernelRfl
namespace Go.Proofs.Ytajgclnahfmfmaa
/- THE CELL 'sum', in the pinned program and in every row, IS THE sha256 OF THE DUMP (.gsa) THAT YtajgclnahfmfmaaProg.lean LOADS. Nothing in Lean hashes anything: it is a label: what it is worth is what the hold of that sum in a sandbox is worth. -/
noncomputable def Try.pinned : Pinned := { name := "ytajgclnahfmfmaa", sum := "f0188f4b7a88ce4d2acc9308516ed471c91feb2d46df9495e0065201071acc9e", checked := Try.checked }
namespace Rows
def none {H : Type} : Left H := { results := [], args := [] }

/-- 'dwindlelaw27.RunChecks': WHATEVER THE INPUT: true; the input reads as it did. -/
def runChecksSpec : ChangeSpec := { name := "runChecks", fn := fun _ => fun
  | [d1, d2] => { results := [.lit (.bool true)], args := [d1, d2] }
  | _ => none }
def runChecksRow : OpenClaim := { program := "ytajgclnahfmfmaa", sum := "f0188f4b7a88ce4d2acc9308516ed471c91feb2d46df9495e0065201071acc9e", func := "dwindle/dwindlelaw27.RunChecks", spec := "runChecks", unfollowed := true, recurses := true, apart := false }
def RunChecksSaid : Prop := runChecksRow.holds Try.pinned (OpenSpec.ofChange runChecksSpec)

/-- ITS FALSE NEIGHBOUR: 'it returns false'. Refute it at one input. -/
def runChecksWrong : ChangeSpec := { name := "runChecks", fn := fun _ => fun
  | [d1, d2] => { results := [.lit (.bool false)], args := [d1, d2] }
  | _ => none }
def RunChecksWrongFalsely : Prop := runChecksRow.holds Try.pinned (OpenSpec.ofChange runChecksWrong)

/-- 'dwindlelaw27.RunFollows': WHATEVER THE INPUT: true; the input reads as it did. -/
def runFollowsSpec : ChangeSpec := { name := "runFollows", fn := fun _ => fun
  | [d1, d2, d3, d4] => { results := [.lit (.bool true)], args := [d1, d2, d3, d4] }
  | _ => none }
def runFollowsRow : OpenClaim := { program := "ytajgclnahfmfmaa", sum := "f0188f4b7a88ce4d2acc9308516ed471c91feb2d46df9495e0065201071acc9e", func := "dwindle/dwindlelaw27.RunFollows", spec := "runFollows", unfollowed := true, recurses := true, apart := false }
def RunFollowsSaid : Prop := runFollowsRow.holds Try.pinned (OpenSpec.ofChange runFollowsSpec)

/-- ITS FALSE NEIGHBOUR: 'it returns false'. Refute it at one input. -/
def runFollowsWrong : ChangeSpec := { name := "runFollows", fn := fun _ => fun
  | [d1, d2, d3, d4] => { results := [.lit (.bool false)], args := [d1, d2, d3, d4] }
  | _ => none }
def RunFollowsWrongFalsely : Prop := runFollowsRow.holds Try.pinned (OpenSpec.ofChange runFollowsWrong)

/-- 'dwindlelaw27.RunEvals': WHATEVER THE INPUT: true; the input reads as it did. -/
def runEvalsSpec : ChangeSpec := { name := "runEvals", fn := fun _ => fun
  | [d1, d2] => { results := [.lit (.bool true)], args := [d1, d2] }
  | _ => none }
def runEvalsRow : OpenClaim := { program := "ytajgclnahfmfmaa", sum := "f0188f4b7a88ce4d2acc9308516ed471c91feb2d46df9495e0065201071acc9e", func := "dwindle/dwindlelaw27.RunEvals", spec := "runEvals", unfollowed := true, recurses := true, apart := false }
def RunEvalsSaid : Prop := runEvalsRow.holds Try.pinned (OpenSpec.ofChange runEvalsSpec)

/-- ITS FALSE NEIGHBOUR: 'it returns false'. Refute it at one input. -/
def runEvalsWrong : ChangeSpec := { name := "runEvals", fn := fun _ => fun
  | [d1, d2] => { results := [.lit (.bool false)], args := [d1, d2] }
  | _ => none }
def RunEvalsWrongFalsely : Prop := runEvalsRow.holds Try.pinned (OpenSpec.ofChange runEvalsWrong)

/-- 'dwindlelaw27.RunSteps': WHATEVER THE INPUT: true; the input reads as it did. -/
def runStepsSpec : ChangeSpec := { name := "runSteps", fn := fun _ => fun
  | [d1, d2, d3, d4] => { results := [.lit (.bool true)], args := [d1, d2, d3, d4] }
  | _ => none }
def runStepsRow : OpenClaim := { program := "ytajgclnahfmfmaa", sum := "f0188f4b7a88ce4d2acc9308516ed471c91feb2d46df9495e0065201071acc9e", func := "dwindle/dwindlelaw27.RunSteps", spec := "runSteps", unfollowed := true, recurses := true, apart := false }
def RunStepsSaid : Prop := runStepsRow.holds Try.pinned (OpenSpec.ofChange runStepsSpec)

/-- ITS FALSE NEIGHBOUR: 'it returns false'. Refute it at one input. -/
def runStepsWrong : ChangeSpec := { name := "runSteps", fn := fun _ => fun
  | [d1, d2, d3, d4] => { results := [.lit (.bool false)], args := [d1, d2, d3, d4] }
  | _ => none }
def RunStepsWrongFalsely : Prop := runStepsRow.holds Try.pinned (OpenSpec.ofChange runStepsWrong)

/-- 'dwindlelaw27.RunTraces': WHATEVER THE INPUT: true; the input reads as it did. -/
def runTracesSpec : ChangeSpec := { name := "runTraces", fn := fun _ => fun
  | [d1, d2, d3, d4] => { results := [.lit (.bool true)], args := [d1, d2, d3, d4] }
  | _ => none }
def runTracesRow : OpenClaim := { program := "ytajgclnahfmfmaa", sum := "f0188f4b7a88ce4d2acc9308516ed471c91feb2d46df9495e0065201071acc9e", func := "dwindle/dwindlelaw27.RunTraces", spec := "runTraces", unfollowed := true, recurses := true, apart := false }
def RunTracesSaid : Prop := runTracesRow.holds Try.pinned (OpenSpec.ofChange runTracesSpec)

/-- ITS FALSE NEIGHBOUR: 'it returns false'. Refute it at one input. -/
def runTracesWrong : ChangeSpec := { name := "runTraces", fn := fun _ => fun
  | [d1, d2, d3, d4] => { results := [.lit (.bool false)], args := [d1, d2, d3, d4] }
  | _ => none }
def RunTracesWrongFalsely : Prop := runTracesRow.holds Try.pinned (OpenSpec.ofChange runTracesWrong)

/-- 'dwindlelaw27.RunSame': WHATEVER THE INPUT: true; the input reads as it did. -/
def runSameSpec : ChangeSpec := { name := "runSame", fn := fun _ => fun
  | [d1, d2, d3, d4] => { results := [.lit (.bool true)], args := [d1, d2, d3, d4] }
  | _ => none }
def runSameRow : OpenClaim := { program := "ytajgclnahfmfmaa", sum := "f0188f4b7a88ce4d2acc9308516ed471c91feb2d46df9495e0065201071acc9e", func := "dwindle/dwindlelaw27.RunSame", spec := "runSame", unfollowed := true, recurses := true, apart := false }
def RunSameSaid : Prop := runSameRow.holds Try.pinned (OpenSpec.ofChange runSameSpec)

/-- ITS FALSE NEIGHBOUR: 'it returns false'. Refute it at one input. -/
def runSameWrong : ChangeSpec := { name := "runSame", fn := fun _ => fun
  | [d1, d2, d3, d4] => { results := [.lit (.bool false)], args := [d1, d2, d3, d4] }
  | _ => none }
def RunSameWrongFalsely : Prop := runSameRow.holds Try.pinned (OpenSpec.ofChange runSameWrong)

/-- 'dwindlelaw25.LinearChecks': WHATEVER THE INPUT: true; the input reads as it did. -/
def linearChecksSpec : ChangeSpec := { name := "linearChecks", fn := fun _ => fun
  | [d1, d2] => { results := [.lit (.bool true)], args := [d1, d2] }
  | _ => none }
def linearChecksRow : OpenClaim := { program := "ytajgclnahfmfmaa", sum := "f0188f4b7a88ce4d2acc9308516ed471c91feb2d46df9495e0065201071acc9e", func := "dwindle/dwindlelaw25.LinearChecks", spec := "linearChecks", unfollowed := true, recurses := true, apart := false }
def LinearChecksSaid : Prop := linearChecksRow.holds Try.pinned (OpenSpec.ofChange linearChecksSpec)

/-- ITS FALSE NEIGHBOUR: 'it returns false'. Refute it at one input. -/
def linearChecksWrong : ChangeSpec := { name := "linearChecks", fn := fun _ => fun
  | [d1, d2] => { results := [.lit (.bool false)], args := [d1, d2] }
  | _ => none }
def LinearChecksWrongFalsely : Prop := linearChecksRow.holds Try.pinned (OpenSpec.ofChange linearChecksWrong)

/-- 'dwindlelaw25.LinearRefutes': WHATEVER THE INPUT: true; the input reads as it did. -/
def linearRefutesSpec : ChangeSpec := { name := "linearRefutes", fn := fun _ => fun
  | [d1, d2, d3] => { results := [.lit (.bool true)], args := [d1, d2, d3] }
  | _ => none }
def linearRefutesRow : OpenClaim := { program := "ytajgclnahfmfmaa", sum := "f0188f4b7a88ce4d2acc9308516ed471c91feb2d46df9495e0065201071acc9e", func := "dwindle/dwindlelaw25.LinearRefutes", spec := "linearRefutes", unfollowed := true, recurses := true, apart := false }
def LinearRefutesSaid : Prop := linearRefutesRow.holds Try.pinned (OpenSpec.ofChange linearRefutesSpec)

/-- ITS FALSE NEIGHBOUR: 'it returns false'. Refute it at one input. -/
def linearRefutesWrong : ChangeSpec := { name := "linearRefutes", fn := fun _ => fun
  | [d1, d2, d3] => { results := [.lit (.bool false)], args := [d1, d2, d3] }
  | _ => none }
def LinearRefutesWrongFalsely : Prop := linearRefutesRow.holds Try.pinned (OpenSpec.ofChange linearRefutesWrong)

/-- 'dwindlelaw25.LinearProves': WHATEVER THE INPUT: true; the input reads as it did. -/
def linearProvesSpec : ChangeSpec := { name := "linearProves", fn := fun _ => fun
  | [d1, d2, d3, d4] => { results := [.lit (.bool true)], args := [d1, d2, d3, d4] }
  | _ => none }
def linearProvesRow : OpenClaim := { program := "ytajgclnahfmfmaa", sum := "f0188f4b7a88ce4d2acc9308516ed471c91feb2d46df9495e0065201071acc9e", func := "dwindle/dwindlelaw25.LinearProves", spec := "linearProves", unfollowed := true, recurses := true, apart := false }
def LinearProvesSaid : Prop := linearProvesRow.holds Try.pinned (OpenSpec.ofChange linearProvesSpec)

/-- ITS FALSE NEIGHBOUR: 'it returns false'. Refute it at one input. -/
def linearProvesWrong : ChangeSpec := { name := "linearProves", fn := fun _ => fun
  | [d1, d2, d3, d4] => { results := [.lit (.bool false)], args := [d1, d2, d3, d4] }
  | _ => none }
def LinearProvesWrongFalsely : Prop := linearProvesRow.holds Try.pinned (OpenSpec.ofChange linearProvesWrong)

/- THE SECOND FORM. 'bulk': how many values and letters a reading holds, each counted each time it is reached (what is shared counts as often as it is met; a slice's spare places count too). A statement '..UptoSaid' is the law's where the arguments, and the package variables that the reading takes, are together of bulk at most 1048576: NARROWER than '..Said'. Prove '..Said' where nothing that the law and all that it calls make is longer than what came in: it says more and counts as full. Else prove '..UptoSaid'. A law counts once. -/
mutual
def uptoBulk {H : Type} : DataW H → Nat
  | .lit (.string bytes) => bytes.length + 1
  | .lit _ => 1
  | .nil => 1
  | .ptr d => uptoBulk d + 1
  | .slice elems spare => uptoBulkAll elems + uptoBulkAll spare + 1
  | .agg parts => uptoBulkAll parts + 1
  | .iface _ d => uptoBulk d + 1
  | .map entries => uptoBulkEntries entries + 1
  | .held _ => 1
def uptoBulkAll {H : Type} : List (DataW H) → Nat
  | [] => 0
  | d :: r => uptoBulk d + uptoBulkAll r
def uptoBulkEntries {H : Type} : List (Lit × DataW H) → Nat
  | [] => 0
  | x :: r => uptoBulkEntry x + uptoBulkEntries r
def uptoBulkEntry {H : Type} : Lit × DataW H → Nat
  | (.string bytes, d) => bytes.length + uptoBulk d + 1
  | (_, d) => uptoBulk d + 1
 end
def uptoSmall : (H : Type) → List (DataW H) → Bool := fun _ ds => decide (uptoBulkAll ds ≤ 1048576)
def OpenSpec.upto (s : _root_.Go.ChangeSpec) : _root_.Go.OpenSpec := { _root_.Go.OpenSpec.ofChange s with cond := some uptoSmall }

/-- 'dwindlelaw27.RunChecks', WHERE WHAT IT READS IS OF BULK AT MOST 1048576: true; the input reads as it did. -/
def runChecksUptoRow : OpenClaim := { program := "ytajgclnahfmfmaa", sum := "f0188f4b7a88ce4d2acc9308516ed471c91feb2d46df9495e0065201071acc9e", func := "dwindle/dwindlelaw27.RunChecks", spec := "runChecks", unfollowed := true, recurses := true, apart := false, narrowed := true }
def RunChecksUptoSaid : Prop := runChecksUptoRow.holds Try.pinned (OpenSpec.upto runChecksSpec)

/-- 'dwindlelaw27.RunFollows', WHERE WHAT IT READS IS OF BULK AT MOST 1048576: true; the input reads as it did. -/
def runFollowsUptoRow : OpenClaim := { program := "ytajgclnahfmfmaa", sum := "f0188f4b7a88ce4d2acc9308516ed471c91feb2d46df9495e0065201071acc9e", func := "dwindle/dwindlelaw27.RunFollows", spec := "runFollows", unfollowed := true, recurses := true, apart := false, narrowed := true }
def RunFollowsUptoSaid : Prop := runFollowsUptoRow.holds Try.pinned (OpenSpec.upto runFollowsSpec)

/-- 'dwindlelaw27.RunEvals', WHERE WHAT IT READS IS OF BULK AT MOST 1048576: true; the input reads as it did. -/
def runEvalsUptoRow : OpenClaim := { program := "ytajgclnahfmfmaa", sum := "f0188f4b7a88ce4d2acc9308516ed471c91feb2d46df9495e0065201071acc9e", func := "dwindle/dwindlelaw27.RunEvals", spec := "runEvals", unfollowed := true, recurses := true, apart := false, narrowed := true }
def RunEvalsUptoSaid : Prop := runEvalsUptoRow.holds Try.pinned (OpenSpec.upto runEvalsSpec)

/-- 'dwindlelaw27.RunSteps', WHERE WHAT IT READS IS OF BULK AT MOST 1048576: true; the input reads as it did. -/
def runStepsUptoRow : OpenClaim := { program := "ytajgclnahfmfmaa", sum := "f0188f4b7a88ce4d2acc9308516ed471c91feb2d46df9495e0065201071acc9e", func := "dwindle/dwindlelaw27.RunSteps", spec := "runSteps", unfollowed := true, recurses := true, apart := false, narrowed := true }
def RunStepsUptoSaid : Prop := runStepsUptoRow.holds Try.pinned (OpenSpec.upto runStepsSpec)

/-- 'dwindlelaw27.RunTraces', WHERE WHAT IT READS IS OF BULK AT MOST 1048576: true; the input reads as it did. -/
def runTracesUptoRow : OpenClaim := { program := "ytajgclnahfmfmaa", sum := "f0188f4b7a88ce4d2acc9308516ed471c91feb2d46df9495e0065201071acc9e", func := "dwindle/dwindlelaw27.RunTraces", spec := "runTraces", unfollowed := true, recurses := true, apart := false, narrowed := true }
def RunTracesUptoSaid : Prop := runTracesUptoRow.holds Try.pinned (OpenSpec.upto runTracesSpec)

/-- 'dwindlelaw27.RunSame', WHERE WHAT IT READS IS OF BULK AT MOST 1048576: true; the input reads as it did. -/
def runSameUptoRow : OpenClaim := { program := "ytajgclnahfmfmaa", sum := "f0188f4b7a88ce4d2acc9308516ed471c91feb2d46df9495e0065201071acc9e", func := "dwindle/dwindlelaw27.RunSame", spec := "runSame", unfollowed := true, recurses := true, apart := false, narrowed := true }
def RunSameUptoSaid : Prop := runSameUptoRow.holds Try.pinned (OpenSpec.upto runSameSpec)

/-- 'dwindlelaw25.LinearChecks', WHERE WHAT IT READS IS OF BULK AT MOST 1048576: true; the input reads as it did. -/
def linearChecksUptoRow : OpenClaim := { program := "ytajgclnahfmfmaa", sum := "f0188f4b7a88ce4d2acc9308516ed471c91feb2d46df9495e0065201071acc9e", func := "dwindle/dwindlelaw25.LinearChecks", spec := "linearChecks", unfollowed := true, recurses := true, apart := false, narrowed := true }
def LinearChecksUptoSaid : Prop := linearChecksUptoRow.holds Try.pinned (OpenSpec.upto linearChecksSpec)

/-- 'dwindlelaw25.LinearRefutes', WHERE WHAT IT READS IS OF BULK AT MOST 1048576: true; the input reads as it did. -/
def linearRefutesUptoRow : OpenClaim := { program := "ytajgclnahfmfmaa", sum := "f0188f4b7a88ce4d2acc9308516ed471c91feb2d46df9495e0065201071acc9e", func := "dwindle/dwindlelaw25.LinearRefutes", spec := "linearRefutes", unfollowed := true, recurses := true, apart := false, narrowed := true }
def LinearRefutesUptoSaid : Prop := linearRefutesUptoRow.holds Try.pinned (OpenSpec.upto linearRefutesSpec)

/-- 'dwindlelaw25.LinearProves', WHERE WHAT IT READS IS OF BULK AT MOST 1048576: true; the input reads as it did. -/
def linearProvesUptoRow : OpenClaim := { program := "ytajgclnahfmfmaa", sum := "f0188f4b7a88ce4d2acc9308516ed471c91feb2d46df9495e0065201071acc9e", func := "dwindle/dwindlelaw25.LinearProves", spec := "linearProves", unfollowed := true, recurses := true, apart := false, narrowed := true }
def LinearProvesUptoSaid : Prop := linearProvesUptoRow.holds Try.pinned (OpenSpec.upto linearProvesSpec)

end Rows
end Go.Proofs.Ytajgclnahfmfmaa
