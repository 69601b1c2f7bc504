/-
  No cell of these rows narrows 'for every input' (looked for: loops, veiled, ifaces, maps, wideKeys, modest, calm, conditions, laid).
  DERIVED. THE GIVEN ROWS OF THIS SEAT. 11 by the template 'for every input the law returns true; each argument reads behind the call as it read before'; 0 by the template 'total and deterministic' (their statements: YtbjkdplimdlfpaaTotals.lean).
  GIVEN WITH THE SEED: the statements are not yours to turn. If you find one false, say at which input.
  Laid BY PROGRAM, IN A SANDBOX (cutbox-rows.mjs): the forced cells as the released guide's own fill.sh prints them over the translation 9c45631b5029dbc3… (all of the seat's roots in one cut). By AI agents, Wed Nov 11 2026. No macro, syntax, notation, axiom, sorry.
-/
import Derived.Test.YtbjkdplimdlfpaaChecked
import GoSem.Claim
import GoSem.ClaimJoined
import GoSem.ClaimMapViews
import Derived.JoinedTies
import Derived.KernelRfl
namespace Go.Proofs.Ytbjkdplimdlfpaa
/- THE CELL 'sum', in the pinned program and in every row, IS THE sha256 OF THE DUMP (.gsa) THAT YtbjkdplimdlfpaaProg.lean LOADS. Nothing in Lean hashes anything: it is a label: what it is worth is what the hold of that sum in a sandbox is worth. -/
noncomputable def Try.pinned : Pinned := { name := "ytbjkdplimdlfpaa", sum := "9c45631b5029dbc325884fc568c79e9b37a5d041c051561b958183ce22fb6ab2", checked := Try.checked }
namespace Rows
def none {H : Type} : Left H := { results := [], args := [] }

/-- 'laws.FnPairCountsMerge': WHATEVER THE INPUT: true; the input reads as it did. -/
def fnPairCountsMergeSpec : ChangeSpec := { name := "fnPairCountsMerge", fn := fun _ => fun
  | [d1, d2] => { results := [.lit (.bool true)], args := [d1, d2] }
  | _ => none }
def fnPairCountsMergeRow : OpenClaim := { program := "ytbjkdplimdlfpaa", sum := "9c45631b5029dbc325884fc568c79e9b37a5d041c051561b958183ce22fb6ab2", func := "loop.example/tallyaudit/laws.FnPairCountsMerge", spec := "fnPairCountsMerge", apart := false }
def FnPairCountsMergeSaid : Prop := fnPairCountsMergeRow.holds Try.pinned (OpenSpec.ofChange fnPairCountsMergeSpec)

/-- ITS FALSE NEIGHBOUR: 'it returns false'. Refute it at one input. -/
def fnPairCountsMergeWrong : ChangeSpec := { name := "fnPairCountsMerge", fn := fun _ => fun
  | [d1, d2] => { results := [.lit (.bool false)], args := [d1, d2] }
  | _ => none }
def FnPairCountsMergeWrongFalsely : Prop := fnPairCountsMergeRow.holds Try.pinned (OpenSpec.ofChange fnPairCountsMergeWrong)

/-- 'laws.FnPairCounts': WHATEVER THE INPUT: true; the input reads as it did. -/
def fnPairCountsSpec : ChangeSpec := { name := "fnPairCounts", fn := fun _ => fun
  | [d] => { results := [.lit (.bool true)], args := [d] }
  | _ => none }
def fnPairCountsRow : OpenClaim := { program := "ytbjkdplimdlfpaa", sum := "9c45631b5029dbc325884fc568c79e9b37a5d041c051561b958183ce22fb6ab2", func := "loop.example/tallyaudit/laws.FnPairCounts", spec := "fnPairCounts", apart := false }
def FnPairCountsSaid : Prop := fnPairCountsRow.holds Try.pinned (OpenSpec.ofChange fnPairCountsSpec)

/-- ITS FALSE NEIGHBOUR: 'it returns false'. Refute it at one input. -/
def fnPairCountsWrong : ChangeSpec := { name := "fnPairCounts", fn := fun _ => fun
  | [d] => { results := [.lit (.bool false)], args := [d] }
  | _ => none }
def FnPairCountsWrongFalsely : Prop := fnPairCountsRow.holds Try.pinned (OpenSpec.ofChange fnPairCountsWrong)

/-- 'laws.FnPairPaths': WHATEVER THE INPUT: true; the input reads as it did. -/
def fnPairPathsSpec : ChangeSpec := { name := "fnPairPaths", fn := fun _ => fun
  | [d] => { results := [.lit (.bool true)], args := [d] }
  | _ => none }
def fnPairPathsRow : OpenClaim := { program := "ytbjkdplimdlfpaa", sum := "9c45631b5029dbc325884fc568c79e9b37a5d041c051561b958183ce22fb6ab2", func := "loop.example/tallyaudit/laws.FnPairPaths", spec := "fnPairPaths", apart := false }
def FnPairPathsSaid : Prop := fnPairPathsRow.holds Try.pinned (OpenSpec.ofChange fnPairPathsSpec)

/-- ITS FALSE NEIGHBOUR: 'it returns false'. Refute it at one input. -/
def fnPairPathsWrong : ChangeSpec := { name := "fnPairPaths", fn := fun _ => fun
  | [d] => { results := [.lit (.bool false)], args := [d] }
  | _ => none }
def FnPairPathsWrongFalsely : Prop := fnPairPathsRow.holds Try.pinned (OpenSpec.ofChange fnPairPathsWrong)

/-- 'laws.FnPairPathsStep': WHATEVER THE INPUT: true; the input reads as it did. -/
def fnPairPathsStepSpec : ChangeSpec := { name := "fnPairPathsStep", fn := fun _ => fun
  | [d] => { results := [.lit (.bool true)], args := [d] }
  | _ => none }
def fnPairPathsStepRow : OpenClaim := { program := "ytbjkdplimdlfpaa", sum := "9c45631b5029dbc325884fc568c79e9b37a5d041c051561b958183ce22fb6ab2", func := "loop.example/tallyaudit/laws.FnPairPathsStep", spec := "fnPairPathsStep", apart := false }
def FnPairPathsStepSaid : Prop := fnPairPathsStepRow.holds Try.pinned (OpenSpec.ofChange fnPairPathsStepSpec)

/-- ITS FALSE NEIGHBOUR: 'it returns false'. Refute it at one input. -/
def fnPairPathsStepWrong : ChangeSpec := { name := "fnPairPathsStep", fn := fun _ => fun
  | [d] => { results := [.lit (.bool false)], args := [d] }
  | _ => none }
def FnPairPathsStepWrongFalsely : Prop := fnPairPathsStepRow.holds Try.pinned (OpenSpec.ofChange fnPairPathsStepWrong)

/-- 'laws.FnPairBestPaths': WHATEVER THE INPUT: true; the input reads as it did. -/
def fnPairBestPathsSpec : ChangeSpec := { name := "fnPairBestPaths", fn := fun _ => fun
  | [d] => { results := [.lit (.bool true)], args := [d] }
  | _ => none }
def fnPairBestPathsRow : OpenClaim := { program := "ytbjkdplimdlfpaa", sum := "9c45631b5029dbc325884fc568c79e9b37a5d041c051561b958183ce22fb6ab2", func := "loop.example/tallyaudit/laws.FnPairBestPaths", spec := "fnPairBestPaths", apart := false }
def FnPairBestPathsSaid : Prop := fnPairBestPathsRow.holds Try.pinned (OpenSpec.ofChange fnPairBestPathsSpec)

/-- ITS FALSE NEIGHBOUR: 'it returns false'. Refute it at one input. -/
def fnPairBestPathsWrong : ChangeSpec := { name := "fnPairBestPaths", fn := fun _ => fun
  | [d] => { results := [.lit (.bool false)], args := [d] }
  | _ => none }
def FnPairBestPathsWrongFalsely : Prop := fnPairBestPathsRow.holds Try.pinned (OpenSpec.ofChange fnPairBestPathsWrong)

/-- 'laws.FnPairWinnerNone': WHATEVER THE INPUT: true; the input reads as it did. -/
def fnPairWinnerNoneSpec : ChangeSpec := { name := "fnPairWinnerNone", fn := fun _ => fun
  | [d] => { results := [.lit (.bool true)], args := [d] }
  | _ => none }
def fnPairWinnerNoneRow : OpenClaim := { program := "ytbjkdplimdlfpaa", sum := "9c45631b5029dbc325884fc568c79e9b37a5d041c051561b958183ce22fb6ab2", func := "loop.example/tallyaudit/laws.FnPairWinnerNone", spec := "fnPairWinnerNone", apart := false }
def FnPairWinnerNoneSaid : Prop := fnPairWinnerNoneRow.holds Try.pinned (OpenSpec.ofChange fnPairWinnerNoneSpec)

/-- ITS FALSE NEIGHBOUR: 'it returns false'. Refute it at one input. -/
def fnPairWinnerNoneWrong : ChangeSpec := { name := "fnPairWinnerNone", fn := fun _ => fun
  | [d] => { results := [.lit (.bool false)], args := [d] }
  | _ => none }
def FnPairWinnerNoneWrongFalsely : Prop := fnPairWinnerNoneRow.holds Try.pinned (OpenSpec.ofChange fnPairWinnerNoneWrong)

/-- 'laws.FnPairTopLeast': WHATEVER THE INPUT: true; the input reads as it did. -/
def fnPairTopLeastSpec : ChangeSpec := { name := "fnPairTopLeast", fn := fun _ => fun
  | [d] => { results := [.lit (.bool true)], args := [d] }
  | _ => none }
def fnPairTopLeastRow : OpenClaim := { program := "ytbjkdplimdlfpaa", sum := "9c45631b5029dbc325884fc568c79e9b37a5d041c051561b958183ce22fb6ab2", func := "loop.example/tallyaudit/laws.FnPairTopLeast", spec := "fnPairTopLeast", apart := false }
def FnPairTopLeastSaid : Prop := fnPairTopLeastRow.holds Try.pinned (OpenSpec.ofChange fnPairTopLeastSpec)

/-- ITS FALSE NEIGHBOUR: 'it returns false'. Refute it at one input. -/
def fnPairTopLeastWrong : ChangeSpec := { name := "fnPairTopLeast", fn := fun _ => fun
  | [d] => { results := [.lit (.bool false)], args := [d] }
  | _ => none }
def FnPairTopLeastWrongFalsely : Prop := fnPairTopLeastRow.holds Try.pinned (OpenSpec.ofChange fnPairTopLeastWrong)

/-- 'laws.FnPairTop': WHATEVER THE INPUT: true; the input reads as it did. -/
def fnPairTopSpec : ChangeSpec := { name := "fnPairTop", fn := fun _ => fun
  | [d] => { results := [.lit (.bool true)], args := [d] }
  | _ => none }
def fnPairTopRow : OpenClaim := { program := "ytbjkdplimdlfpaa", sum := "9c45631b5029dbc325884fc568c79e9b37a5d041c051561b958183ce22fb6ab2", func := "loop.example/tallyaudit/laws.FnPairTop", spec := "fnPairTop", apart := false }
def FnPairTopSaid : Prop := fnPairTopRow.holds Try.pinned (OpenSpec.ofChange fnPairTopSpec)

/-- ITS FALSE NEIGHBOUR: 'it returns false'. Refute it at one input. -/
def fnPairTopWrong : ChangeSpec := { name := "fnPairTop", fn := fun _ => fun
  | [d] => { results := [.lit (.bool false)], args := [d] }
  | _ => none }
def FnPairTopWrongFalsely : Prop := fnPairTopRow.holds Try.pinned (OpenSpec.ofChange fnPairTopWrong)

/-- 'laws.FnPairWinner': WHATEVER THE INPUT: true; the input reads as it did. -/
def fnPairWinnerSpec : ChangeSpec := { name := "fnPairWinner", fn := fun _ => fun
  | [d] => { results := [.lit (.bool true)], args := [d] }
  | _ => none }
def fnPairWinnerRow : OpenClaim := { program := "ytbjkdplimdlfpaa", sum := "9c45631b5029dbc325884fc568c79e9b37a5d041c051561b958183ce22fb6ab2", func := "loop.example/tallyaudit/laws.FnPairWinner", spec := "fnPairWinner", apart := false }
def FnPairWinnerSaid : Prop := fnPairWinnerRow.holds Try.pinned (OpenSpec.ofChange fnPairWinnerSpec)

/-- ITS FALSE NEIGHBOUR: 'it returns false'. Refute it at one input. -/
def fnPairWinnerWrong : ChangeSpec := { name := "fnPairWinner", fn := fun _ => fun
  | [d] => { results := [.lit (.bool false)], args := [d] }
  | _ => none }
def FnPairWinnerWrongFalsely : Prop := fnPairWinnerRow.holds Try.pinned (OpenSpec.ofChange fnPairWinnerWrong)

/-- 'laws.FnPairBest': WHATEVER THE INPUT: true; the input reads as it did. -/
def fnPairBestSpec : ChangeSpec := { name := "fnPairBest", fn := fun _ => fun
  | [d] => { results := [.lit (.bool true)], args := [d] }
  | _ => none }
def fnPairBestRow : OpenClaim := { program := "ytbjkdplimdlfpaa", sum := "9c45631b5029dbc325884fc568c79e9b37a5d041c051561b958183ce22fb6ab2", func := "loop.example/tallyaudit/laws.FnPairBest", spec := "fnPairBest", apart := false }
def FnPairBestSaid : Prop := fnPairBestRow.holds Try.pinned (OpenSpec.ofChange fnPairBestSpec)

/-- ITS FALSE NEIGHBOUR: 'it returns false'. Refute it at one input. -/
def fnPairBestWrong : ChangeSpec := { name := "fnPairBest", fn := fun _ => fun
  | [d] => { results := [.lit (.bool false)], args := [d] }
  | _ => none }
def FnPairBestWrongFalsely : Prop := fnPairBestRow.holds Try.pinned (OpenSpec.ofChange fnPairBestWrong)

/-- 'laws.FnPlaceWinner': WHATEVER THE INPUT: true; the input reads as it did. -/
def fnPlaceWinnerSpec : ChangeSpec := { name := "fnPlaceWinner", fn := fun _ => fun
  | [d] => { results := [.lit (.bool true)], args := [d] }
  | _ => none }
def fnPlaceWinnerRow : OpenClaim := { program := "ytbjkdplimdlfpaa", sum := "9c45631b5029dbc325884fc568c79e9b37a5d041c051561b958183ce22fb6ab2", func := "loop.example/tallyaudit/laws.FnPlaceWinner", spec := "fnPlaceWinner", unfollowed := true, recurses := true, apart := false }
def FnPlaceWinnerSaid : Prop := fnPlaceWinnerRow.holds Try.pinned (OpenSpec.ofChange fnPlaceWinnerSpec)

/-- ITS FALSE NEIGHBOUR: 'it returns false'. Refute it at one input. -/
def fnPlaceWinnerWrong : ChangeSpec := { name := "fnPlaceWinner", fn := fun _ => fun
  | [d] => { results := [.lit (.bool false)], args := [d] }
  | _ => none }
def FnPlaceWinnerWrongFalsely : Prop := fnPlaceWinnerRow.holds Try.pinned (OpenSpec.ofChange fnPlaceWinnerWrong)

/- THE SECOND FORM. 'bulk': how many values and letters a reading holds, each counted each time it is reached (what is shared counts as often as it is met; a slice's spare places count too). A statement '..UptoSaid' is the law's where the arguments, and the package variables that the reading takes, are together of bulk at most 1048576: NARROWER than '..Said'. Prove '..Said' where nothing that the law and all that it calls make is longer than what came in: it says more and counts as full. Else prove '..UptoSaid'. A law counts once. -/
mutual
def uptoBulk {H : Type} : DataW H → Nat
  | .lit (.string bytes) => bytes.length + 1
  | .lit _ => 1
  | .nil => 1
  | .ptr d => uptoBulk d + 1
  | .slice elems spare => uptoBulkAll elems + uptoBulkAll spare + 1
  | .agg parts => uptoBulkAll parts + 1
  | .iface _ d => uptoBulk d + 1
  | .map entries => uptoBulkEntries entries + 1
  | .held _ => 1
def uptoBulkAll {H : Type} : List (DataW H) → Nat
  | [] => 0
  | d :: r => uptoBulk d + uptoBulkAll r
def uptoBulkEntries {H : Type} : List (Lit × DataW H) → Nat
  | [] => 0
  | x :: r => uptoBulkEntry x + uptoBulkEntries r
def uptoBulkEntry {H : Type} : Lit × DataW H → Nat
  | (.string bytes, d) => bytes.length + uptoBulk d + 1
  | (_, d) => uptoBulk d + 1
 end
def uptoSmall : (H : Type) → List (DataW H) → Bool := fun _ ds => decide (uptoBulkAll ds ≤ 1048576)
def OpenSpec.upto (s : _root_.Go.ChangeSpec) : _root_.Go.OpenSpec := { _root_.Go.OpenSpec.ofChange s with cond := some uptoSmall }

/-- 'laws.FnPairCountsMerge', WHERE WHAT IT READS IS OF BULK AT MOST 1048576: true; the input reads as it did. -/
def fnPairCountsMergeUptoRow : OpenClaim := { program := "ytbjkdplimdlfpaa", sum := "9c45631b5029dbc325884fc568c79e9b37a5d041c051561b958183ce22fb6ab2", func := "loop.example/tallyaudit/laws.FnPairCountsMerge", spec := "fnPairCountsMerge", apart := false, narrowed := true }
def FnPairCountsMergeUptoSaid : Prop := fnPairCountsMergeUptoRow.holds Try.pinned (OpenSpec.upto fnPairCountsMergeSpec)

/-- 'laws.FnPairCounts', WHERE WHAT IT READS IS OF BULK AT MOST 1048576: true; the input reads as it did. -/
def fnPairCountsUptoRow : OpenClaim := { program := "ytbjkdplimdlfpaa", sum := "9c45631b5029dbc325884fc568c79e9b37a5d041c051561b958183ce22fb6ab2", func := "loop.example/tallyaudit/laws.FnPairCounts", spec := "fnPairCounts", apart := false, narrowed := true }
def FnPairCountsUptoSaid : Prop := fnPairCountsUptoRow.holds Try.pinned (OpenSpec.upto fnPairCountsSpec)

/-- 'laws.FnPairPaths', WHERE WHAT IT READS IS OF BULK AT MOST 1048576: true; the input reads as it did. -/
def fnPairPathsUptoRow : OpenClaim := { program := "ytbjkdplimdlfpaa", sum := "9c45631b5029dbc325884fc568c79e9b37a5d041c051561b958183ce22fb6ab2", func := "loop.example/tallyaudit/laws.FnPairPaths", spec := "fnPairPaths", apart := false, narrowed := true }
def FnPairPathsUptoSaid : Prop := fnPairPathsUptoRow.holds Try.pinned (OpenSpec.upto fnPairPathsSpec)

/-- 'laws.FnPairPathsStep', WHERE WHAT IT READS IS OF BULK AT MOST 1048576: true; the input reads as it did. -/
def fnPairPathsStepUptoRow : OpenClaim := { program := "ytbjkdplimdlfpaa", sum := "9c45631b5029dbc325884fc568c79e9b37a5d041c051561b958183ce22fb6ab2", func := "loop.example/tallyaudit/laws.FnPairPathsStep", spec := "fnPairPathsStep", apart := false, narrowed := true }
def FnPairPathsStepUptoSaid : Prop := fnPairPathsStepUptoRow.holds Try.pinned (OpenSpec.upto fnPairPathsStepSpec)

/-- 'laws.FnPairBestPaths', WHERE WHAT IT READS IS OF BULK AT MOST 1048576: true; the input reads as it did. -/
def fnPairBestPathsUptoRow : OpenClaim := { program := "ytbjkdplimdlfpaa", sum := "9c45631b5029dbc325884fc568c79e9b37a5d041c051561b958183ce22fb6ab2", func := "loop.example/tallyaudit/laws.FnPairBestPaths", spec := "fnPairBestPaths", apart := false, narrowed := true }
def FnPairBestPathsUptoSaid : Prop := fnPairBestPathsUptoRow.holds Try.pinned (OpenSpec.upto fnPairBestPathsSpec)

/-- 'laws.FnPairWinnerNone', WHERE WHAT IT READS IS OF BULK AT MOST 1048576: true; the input reads as it did. -/
def fnPairWinnerNoneUptoRow : OpenClaim := { program := "ytbjkdplimdlfpaa", sum := "9c45631b5029dbc325884fc568c79e9b37a5d041c051561b958183ce22fb6ab2", func := "loop.example/tallyaudit/laws.FnPairWinnerNone", spec := "fnPairWinnerNone", apart := false, narrowed := true }
def FnPairWinnerNoneUptoSaid : Prop := fnPairWinnerNoneUptoRow.holds Try.pinned (OpenSpec.upto fnPairWinnerNoneSpec)

/-- 'laws.FnPairTopLeast', WHERE WHAT IT READS IS OF BULK AT MOST 1048576: true; the input reads as it did. -/
def fnPairTopLeastUptoRow : OpenClaim := { program := "ytbjkdplimdlfpaa", sum := "9c45631b5029dbc325884fc568c79e9b37a5d041c051561b958183ce22fb6ab2", func := "loop.example/tallyaudit/laws.FnPairTopLeast", spec := "fnPairTopLeast", apart := false, narrowed := true }
def FnPairTopLeastUptoSaid : Prop := fnPairTopLeastUptoRow.holds Try.pinned (OpenSpec.upto fnPairTopLeastSpec)

/-- 'laws.FnPairTop', WHERE WHAT IT READS IS OF BULK AT MOST 1048576: true; the input reads as it did. -/
def fnPairTopUptoRow : OpenClaim := { program := "ytbjkdplimdlfpaa", sum := "9c45631b5029dbc325884fc568c79e9b37a5d041c051561b958183ce22fb6ab2", func := "loop.example/tallyaudit/laws.FnPairTop", spec := "fnPairTop", apart := false, narrowed := true }
def FnPairTopUptoSaid : Prop := fnPairTopUptoRow.holds Try.pinned (OpenSpec.upto fnPairTopSpec)

/-- 'laws.FnPairWinner', WHERE WHAT IT READS IS OF BULK AT MOST 1048576: true; the input reads as it did. -/
def fnPairWinnerUptoRow : OpenClaim := { program := "ytbjkdplimdlfpaa", sum := "9c45631b5029dbc325884fc568c79e9b37a5d041c051561b958183ce22fb6ab2", func := "loop.example/tallyaudit/laws.FnPairWinner", spec := "fnPairWinner", apart := false, narrowed := true }
def FnPairWinnerUptoSaid : Prop := fnPairWinnerUptoRow.holds Try.pinned (OpenSpec.upto fnPairWinnerSpec)

/-- 'laws.FnPairBest', WHERE WHAT IT READS IS OF BULK AT MOST 1048576: true; the input reads as it did. -/
def fnPairBestUptoRow : OpenClaim := { program := "ytbjkdplimdlfpaa", sum := "9c45631b5029dbc325884fc568c79e9b37a5d041c051561b958183ce22fb6ab2", func := "loop.example/tallyaudit/laws.FnPairBest", spec := "fnPairBest", apart := false, narrowed := true }
def FnPairBestUptoSaid : Prop := fnPairBestUptoRow.holds Try.pinned (OpenSpec.upto fnPairBestSpec)

/-- 'laws.FnPlaceWinner', WHERE WHAT IT READS IS OF BULK AT MOST 1048576: true; the input reads as it did. -/
def fnPlaceWinnerUptoRow : OpenClaim := { program := "ytbjkdplimdlfpaa", sum := "9c45631b5029dbc325884fc568c79e9b37a5d041c051561b958183ce22fb6ab2", func := "loop.example/tallyaudit/laws.FnPlaceWinner", spec := "fnPlaceWinner", unfollowed := true, recurses := true, apart := false, narrowed := true }
def FnPlaceWinnerUptoSaid : Prop := fnPlaceWinnerUptoRow.holds Try.pinned (OpenSpec.upto fnPlaceWinnerSpec)

end Rows
end Go.Proofs.Ytbjkdplimdlfpaa
