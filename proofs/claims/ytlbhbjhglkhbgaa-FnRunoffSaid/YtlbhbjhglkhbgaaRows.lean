/-
  No cell of these rows narrows 'for every input' (looked for: loops, veiled, ifaces, maps, wideKeys, modest, calm, conditions, laid).
  DERIVED. THE GIVEN ROWS OF THIS SEAT. 11 by the template 'for every input the law returns true; each argument reads behind the call as it read before'; 0 by the template 'total and deterministic' (their statements: YtlbhbjhglkhbgaaTotals.lean).
  GIVEN WITH THE SEED: the statements are not yours to turn. If you find one false, say at which input.
  Laid BY PROGRAM, IN A SANDBOX (cutbox-rows.mjs): the forced cells as the released guide's own fill.sh prints them over the translation 2ddd1f5e1f1fbb67… (all of the seat's roots in one cut). By AI agents, Wed Nov 11 2026. No macro, syntax, notation, axiom, sorry.
-/
import Derived.Test.YtlbhbjhglkhbgaaChecked
import GoSem.Claim
import GoSem.ClaimJoined
import GoSem.ClaimMapViews
import Derived.JoinedTies
import Derived.KernelRfl
namespace Go.Proofs.Ytlbhbjhglkhbgaa
/- THE CELL 'sum', in the pinned program and in every row, IS THE sha256 OF THE DUMP (.gsa) THAT YtlbhbjhglkhbgaaProg.lean LOADS. Nothing in Lean hashes anything: it is a label: what it is worth is what the hold of that sum in a sandbox is worth. -/
noncomputable def Try.pinned : Pinned := { name := "ytlbhbjhglkhbgaa", sum := "2ddd1f5e1f1fbb67c6a7f0d09b921170723fd95d291304da25bf5a5b7503cb40", checked := Try.checked }
namespace Rows
def none {H : Type} : Left H := { results := [], args := [] }

/-- 'laws.FnPlurality': WHATEVER THE INPUT: true; the input reads as it did. -/
def fnPluralitySpec : ChangeSpec := { name := "fnPlurality", fn := fun _ => fun
  | [d] => { results := [.lit (.bool true)], args := [d] }
  | _ => none }
def fnPluralityRow : OpenClaim := { program := "ytlbhbjhglkhbgaa", sum := "2ddd1f5e1f1fbb67c6a7f0d09b921170723fd95d291304da25bf5a5b7503cb40", func := "loop.example/tallyaudit/laws.FnPlurality", spec := "fnPlurality", apart := false }
def FnPluralitySaid : Prop := fnPluralityRow.holds Try.pinned (OpenSpec.ofChange fnPluralitySpec)

/-- ITS FALSE NEIGHBOUR: 'it returns false'. Refute it at one input. -/
def fnPluralityWrong : ChangeSpec := { name := "fnPlurality", fn := fun _ => fun
  | [d] => { results := [.lit (.bool false)], args := [d] }
  | _ => none }
def FnPluralityWrongFalsely : Prop := fnPluralityRow.holds Try.pinned (OpenSpec.ofChange fnPluralityWrong)

/-- 'laws.FnPluralityMargin': WHATEVER THE INPUT: true; the input reads as it did. -/
def fnPluralityMarginSpec : ChangeSpec := { name := "fnPluralityMargin", fn := fun _ => fun
  | [d] => { results := [.lit (.bool true)], args := [d] }
  | _ => none }
def fnPluralityMarginRow : OpenClaim := { program := "ytlbhbjhglkhbgaa", sum := "2ddd1f5e1f1fbb67c6a7f0d09b921170723fd95d291304da25bf5a5b7503cb40", func := "loop.example/tallyaudit/laws.FnPluralityMargin", spec := "fnPluralityMargin", apart := false }
def FnPluralityMarginSaid : Prop := fnPluralityMarginRow.holds Try.pinned (OpenSpec.ofChange fnPluralityMarginSpec)

/-- ITS FALSE NEIGHBOUR: 'it returns false'. Refute it at one input. -/
def fnPluralityMarginWrong : ChangeSpec := { name := "fnPluralityMargin", fn := fun _ => fun
  | [d] => { results := [.lit (.bool false)], args := [d] }
  | _ => none }
def FnPluralityMarginWrongFalsely : Prop := fnPluralityMarginRow.holds Try.pinned (OpenSpec.ofChange fnPluralityMarginWrong)

/-- 'laws.FnDepthWinner': WHATEVER THE INPUT: true; the input reads as it did. -/
def fnDepthWinnerSpec : ChangeSpec := { name := "fnDepthWinner", fn := fun _ => fun
  | [d] => { results := [.lit (.bool true)], args := [d] }
  | _ => none }
def fnDepthWinnerRow : OpenClaim := { program := "ytlbhbjhglkhbgaa", sum := "2ddd1f5e1f1fbb67c6a7f0d09b921170723fd95d291304da25bf5a5b7503cb40", func := "loop.example/tallyaudit/laws.FnDepthWinner", spec := "fnDepthWinner", unfollowed := true, recurses := true, apart := false }
def FnDepthWinnerSaid : Prop := fnDepthWinnerRow.holds Try.pinned (OpenSpec.ofChange fnDepthWinnerSpec)

/-- ITS FALSE NEIGHBOUR: 'it returns false'. Refute it at one input. -/
def fnDepthWinnerWrong : ChangeSpec := { name := "fnDepthWinner", fn := fun _ => fun
  | [d] => { results := [.lit (.bool false)], args := [d] }
  | _ => none }
def FnDepthWinnerWrongFalsely : Prop := fnDepthWinnerRow.holds Try.pinned (OpenSpec.ofChange fnDepthWinnerWrong)

/-- 'laws.FnExactRunoffWinner': WHATEVER THE INPUT: true; the input reads as it did. -/
def fnExactRunoffWinnerSpec : ChangeSpec := { name := "fnExactRunoffWinner", fn := fun _ => fun
  | [d1, d2] => { results := [.lit (.bool true)], args := [d1, d2] }
  | _ => none }
def fnExactRunoffWinnerRow : OpenClaim := { program := "ytlbhbjhglkhbgaa", sum := "2ddd1f5e1f1fbb67c6a7f0d09b921170723fd95d291304da25bf5a5b7503cb40", func := "loop.example/tallyaudit/laws.FnExactRunoffWinner", spec := "fnExactRunoffWinner", apart := false }
def FnExactRunoffWinnerSaid : Prop := fnExactRunoffWinnerRow.holds Try.pinned (OpenSpec.ofChange fnExactRunoffWinnerSpec)

/-- ITS FALSE NEIGHBOUR: 'it returns false'. Refute it at one input. -/
def fnExactRunoffWinnerWrong : ChangeSpec := { name := "fnExactRunoffWinner", fn := fun _ => fun
  | [d1, d2] => { results := [.lit (.bool false)], args := [d1, d2] }
  | _ => none }
def FnExactRunoffWinnerWrongFalsely : Prop := fnExactRunoffWinnerRow.holds Try.pinned (OpenSpec.ofChange fnExactRunoffWinnerWrong)

/-- 'laws.FnDepthWinnerOne': WHATEVER THE INPUT: true; the input reads as it did. -/
def fnDepthWinnerOneSpec : ChangeSpec := { name := "fnDepthWinnerOne", fn := fun _ => fun
  | [d] => { results := [.lit (.bool true)], args := [d] }
  | _ => none }
def fnDepthWinnerOneRow : OpenClaim := { program := "ytlbhbjhglkhbgaa", sum := "2ddd1f5e1f1fbb67c6a7f0d09b921170723fd95d291304da25bf5a5b7503cb40", func := "loop.example/tallyaudit/laws.FnDepthWinnerOne", spec := "fnDepthWinnerOne", unfollowed := true, recurses := true, apart := false }
def FnDepthWinnerOneSaid : Prop := fnDepthWinnerOneRow.holds Try.pinned (OpenSpec.ofChange fnDepthWinnerOneSpec)

/-- ITS FALSE NEIGHBOUR: 'it returns false'. Refute it at one input. -/
def fnDepthWinnerOneWrong : ChangeSpec := { name := "fnDepthWinnerOne", fn := fun _ => fun
  | [d] => { results := [.lit (.bool false)], args := [d] }
  | _ => none }
def FnDepthWinnerOneWrongFalsely : Prop := fnDepthWinnerOneRow.holds Try.pinned (OpenSpec.ofChange fnDepthWinnerOneWrong)

/-- 'laws.FnExactRunoffRounds': WHATEVER THE INPUT: true; the input reads as it did. -/
def fnExactRunoffRoundsSpec : ChangeSpec := { name := "fnExactRunoffRounds", fn := fun _ => fun
  | [d1, d2] => { results := [.lit (.bool true)], args := [d1, d2] }
  | _ => none }
def fnExactRunoffRoundsRow : OpenClaim := { program := "ytlbhbjhglkhbgaa", sum := "2ddd1f5e1f1fbb67c6a7f0d09b921170723fd95d291304da25bf5a5b7503cb40", func := "loop.example/tallyaudit/laws.FnExactRunoffRounds", spec := "fnExactRunoffRounds", apart := false }
def FnExactRunoffRoundsSaid : Prop := fnExactRunoffRoundsRow.holds Try.pinned (OpenSpec.ofChange fnExactRunoffRoundsSpec)

/-- ITS FALSE NEIGHBOUR: 'it returns false'. Refute it at one input. -/
def fnExactRunoffRoundsWrong : ChangeSpec := { name := "fnExactRunoffRounds", fn := fun _ => fun
  | [d1, d2] => { results := [.lit (.bool false)], args := [d1, d2] }
  | _ => none }
def FnExactRunoffRoundsWrongFalsely : Prop := fnExactRunoffRoundsRow.holds Try.pinned (OpenSpec.ofChange fnExactRunoffRoundsWrong)

/-- 'laws.FnRunoff': WHATEVER THE INPUT: true; the input reads as it did. -/
def fnRunoffSpec : ChangeSpec := { name := "fnRunoff", fn := fun _ => fun
  | [d] => { results := [.lit (.bool true)], args := [d] }
  | _ => none }
def fnRunoffRow : OpenClaim := { program := "ytlbhbjhglkhbgaa", sum := "2ddd1f5e1f1fbb67c6a7f0d09b921170723fd95d291304da25bf5a5b7503cb40", func := "loop.example/tallyaudit/laws.FnRunoff", spec := "fnRunoff", apart := false }
def FnRunoffSaid : Prop := fnRunoffRow.holds Try.pinned (OpenSpec.ofChange fnRunoffSpec)

/-- ITS FALSE NEIGHBOUR: 'it returns false'. Refute it at one input. -/
def fnRunoffWrong : ChangeSpec := { name := "fnRunoff", fn := fun _ => fun
  | [d] => { results := [.lit (.bool false)], args := [d] }
  | _ => none }
def FnRunoffWrongFalsely : Prop := fnRunoffRow.holds Try.pinned (OpenSpec.ofChange fnRunoffWrong)

/-- 'laws.FnRunoffLeast': WHATEVER THE INPUT: true; the input reads as it did. -/
def fnRunoffLeastSpec : ChangeSpec := { name := "fnRunoffLeast", fn := fun _ => fun
  | [d] => { results := [.lit (.bool true)], args := [d] }
  | _ => none }
def fnRunoffLeastRow : OpenClaim := { program := "ytlbhbjhglkhbgaa", sum := "2ddd1f5e1f1fbb67c6a7f0d09b921170723fd95d291304da25bf5a5b7503cb40", func := "loop.example/tallyaudit/laws.FnRunoffLeast", spec := "fnRunoffLeast", apart := false }
def FnRunoffLeastSaid : Prop := fnRunoffLeastRow.holds Try.pinned (OpenSpec.ofChange fnRunoffLeastSpec)

/-- ITS FALSE NEIGHBOUR: 'it returns false'. Refute it at one input. -/
def fnRunoffLeastWrong : ChangeSpec := { name := "fnRunoffLeast", fn := fun _ => fun
  | [d] => { results := [.lit (.bool false)], args := [d] }
  | _ => none }
def FnRunoffLeastWrongFalsely : Prop := fnRunoffLeastRow.holds Try.pinned (OpenSpec.ofChange fnRunoffLeastWrong)

/-- 'laws.FnExactRunoffCheck': WHATEVER THE INPUT: true; the input reads as it did. -/
def fnExactRunoffCheckSpec : ChangeSpec := { name := "fnExactRunoffCheck", fn := fun _ => fun
  | [d1, d2, d3] => { results := [.lit (.bool true)], args := [d1, d2, d3] }
  | _ => none }
def fnExactRunoffCheckRow : OpenClaim := { program := "ytlbhbjhglkhbgaa", sum := "2ddd1f5e1f1fbb67c6a7f0d09b921170723fd95d291304da25bf5a5b7503cb40", func := "loop.example/tallyaudit/laws.FnExactRunoffCheck", spec := "fnExactRunoffCheck", unfollowed := true, recurses := true, apart := false }
def FnExactRunoffCheckSaid : Prop := fnExactRunoffCheckRow.holds Try.pinned (OpenSpec.ofChange fnExactRunoffCheckSpec)

/-- ITS FALSE NEIGHBOUR: 'it returns false'. Refute it at one input. -/
def fnExactRunoffCheckWrong : ChangeSpec := { name := "fnExactRunoffCheck", fn := fun _ => fun
  | [d1, d2, d3] => { results := [.lit (.bool false)], args := [d1, d2, d3] }
  | _ => none }
def FnExactRunoffCheckWrongFalsely : Prop := fnExactRunoffCheckRow.holds Try.pinned (OpenSpec.ofChange fnExactRunoffCheckWrong)

/-- 'laws.FnRunoffWinner': WHATEVER THE INPUT: true; the input reads as it did. -/
def fnRunoffWinnerSpec : ChangeSpec := { name := "fnRunoffWinner", fn := fun _ => fun
  | [d] => { results := [.lit (.bool true)], args := [d] }
  | _ => none }
def fnRunoffWinnerRow : OpenClaim := { program := "ytlbhbjhglkhbgaa", sum := "2ddd1f5e1f1fbb67c6a7f0d09b921170723fd95d291304da25bf5a5b7503cb40", func := "loop.example/tallyaudit/laws.FnRunoffWinner", spec := "fnRunoffWinner", apart := false }
def FnRunoffWinnerSaid : Prop := fnRunoffWinnerRow.holds Try.pinned (OpenSpec.ofChange fnRunoffWinnerSpec)

/-- ITS FALSE NEIGHBOUR: 'it returns false'. Refute it at one input. -/
def fnRunoffWinnerWrong : ChangeSpec := { name := "fnRunoffWinner", fn := fun _ => fun
  | [d] => { results := [.lit (.bool false)], args := [d] }
  | _ => none }
def FnRunoffWinnerWrongFalsely : Prop := fnRunoffWinnerRow.holds Try.pinned (OpenSpec.ofChange fnRunoffWinnerWrong)

/-- 'laws.FnRunoffCheck': WHATEVER THE INPUT: true; the input reads as it did. -/
def fnRunoffCheckSpec : ChangeSpec := { name := "fnRunoffCheck", fn := fun _ => fun
  | [d] => { results := [.lit (.bool true)], args := [d] }
  | _ => none }
def fnRunoffCheckRow : OpenClaim := { program := "ytlbhbjhglkhbgaa", sum := "2ddd1f5e1f1fbb67c6a7f0d09b921170723fd95d291304da25bf5a5b7503cb40", func := "loop.example/tallyaudit/laws.FnRunoffCheck", spec := "fnRunoffCheck", unfollowed := true, recurses := true, apart := false }
def FnRunoffCheckSaid : Prop := fnRunoffCheckRow.holds Try.pinned (OpenSpec.ofChange fnRunoffCheckSpec)

/-- ITS FALSE NEIGHBOUR: 'it returns false'. Refute it at one input. -/
def fnRunoffCheckWrong : ChangeSpec := { name := "fnRunoffCheck", fn := fun _ => fun
  | [d] => { results := [.lit (.bool false)], args := [d] }
  | _ => none }
def FnRunoffCheckWrongFalsely : Prop := fnRunoffCheckRow.holds Try.pinned (OpenSpec.ofChange fnRunoffCheckWrong)

/- THE SECOND FORM. 'bulk': how many values and letters a reading holds, each counted each time it is reached (what is shared counts as often as it is met; a slice's spare places count too). A statement '..UptoSaid' is the law's where the arguments, and the package variables that the reading takes, are together of bulk at most 1048576: NARROWER than '..Said'. Prove '..Said' where nothing that the law and all that it calls make is longer than what came in: it says more and counts as full. Else prove '..UptoSaid'. A law counts once. -/
mutual
def uptoBulk {H : Type} : DataW H → Nat
  | .lit (.string bytes) => bytes.length + 1
  | .lit _ => 1
  | .nil => 1
  | .ptr d => uptoBulk d + 1
  | .slice elems spare => uptoBulkAll elems + uptoBulkAll spare + 1
  | .agg parts => uptoBulkAll parts + 1
  | .iface _ d => uptoBulk d + 1
  | .map entries => uptoBulkEntries entries + 1
  | .held _ => 1
def uptoBulkAll {H : Type} : List (DataW H) → Nat
  | [] => 0
  | d :: r => uptoBulk d + uptoBulkAll r
def uptoBulkEntries {H : Type} : List (Lit × DataW H) → Nat
  | [] => 0
  | x :: r => uptoBulkEntry x + uptoBulkEntries r
def uptoBulkEntry {H : Type} : Lit × DataW H → Nat
  | (.string bytes, d) => bytes.length + uptoBulk d + 1
  | (_, d) => uptoBulk d + 1
 end
def uptoSmall : (H : Type) → List (DataW H) → Bool := fun _ ds => decide (uptoBulkAll ds ≤ 1048576)
def OpenSpec.upto (s : _root_.Go.ChangeSpec) : _root_.Go.OpenSpec := { _root_.Go.OpenSpec.ofChange s with cond := some uptoSmall }

/-- 'laws.FnPlurality', WHERE WHAT IT READS IS OF BULK AT MOST 1048576: true; the input reads as it did. -/
def fnPluralityUptoRow : OpenClaim := { program := "ytlbhbjhglkhbgaa", sum := "2ddd1f5e1f1fbb67c6a7f0d09b921170723fd95d291304da25bf5a5b7503cb40", func := "loop.example/tallyaudit/laws.FnPlurality", spec := "fnPlurality", apart := false, narrowed := true }
def FnPluralityUptoSaid : Prop := fnPluralityUptoRow.holds Try.pinned (OpenSpec.upto fnPluralitySpec)

/-- 'laws.FnPluralityMargin', WHERE WHAT IT READS IS OF BULK AT MOST 1048576: true; the input reads as it did. -/
def fnPluralityMarginUptoRow : OpenClaim := { program := "ytlbhbjhglkhbgaa", sum := "2ddd1f5e1f1fbb67c6a7f0d09b921170723fd95d291304da25bf5a5b7503cb40", func := "loop.example/tallyaudit/laws.FnPluralityMargin", spec := "fnPluralityMargin", apart := false, narrowed := true }
def FnPluralityMarginUptoSaid : Prop := fnPluralityMarginUptoRow.holds Try.pinned (OpenSpec.upto fnPluralityMarginSpec)

/-- 'laws.FnDepthWinner', WHERE WHAT IT READS IS OF BULK AT MOST 1048576: true; the input reads as it did. -/
def fnDepthWinnerUptoRow : OpenClaim := { program := "ytlbhbjhglkhbgaa", sum := "2ddd1f5e1f1fbb67c6a7f0d09b921170723fd95d291304da25bf5a5b7503cb40", func := "loop.example/tallyaudit/laws.FnDepthWinner", spec := "fnDepthWinner", unfollowed := true, recurses := true, apart := false, narrowed := true }
def FnDepthWinnerUptoSaid : Prop := fnDepthWinnerUptoRow.holds Try.pinned (OpenSpec.upto fnDepthWinnerSpec)

/-- 'laws.FnExactRunoffWinner', WHERE WHAT IT READS IS OF BULK AT MOST 1048576: true; the input reads as it did. -/
def fnExactRunoffWinnerUptoRow : OpenClaim := { program := "ytlbhbjhglkhbgaa", sum := "2ddd1f5e1f1fbb67c6a7f0d09b921170723fd95d291304da25bf5a5b7503cb40", func := "loop.example/tallyaudit/laws.FnExactRunoffWinner", spec := "fnExactRunoffWinner", apart := false, narrowed := true }
def FnExactRunoffWinnerUptoSaid : Prop := fnExactRunoffWinnerUptoRow.holds Try.pinned (OpenSpec.upto fnExactRunoffWinnerSpec)

/-- 'laws.FnDepthWinnerOne', WHERE WHAT IT READS IS OF BULK AT MOST 1048576: true; the input reads as it did. -/
def fnDepthWinnerOneUptoRow : OpenClaim := { program := "ytlbhbjhglkhbgaa", sum := "2ddd1f5e1f1fbb67c6a7f0d09b921170723fd95d291304da25bf5a5b7503cb40", func := "loop.example/tallyaudit/laws.FnDepthWinnerOne", spec := "fnDepthWinnerOne", unfollowed := true, recurses := true, apart := false, narrowed := true }
def FnDepthWinnerOneUptoSaid : Prop := fnDepthWinnerOneUptoRow.holds Try.pinned (OpenSpec.upto fnDepthWinnerOneSpec)

/-- 'laws.FnExactRunoffRounds', WHERE WHAT IT READS IS OF BULK AT MOST 1048576: true; the input reads as it did. -/
def fnExactRunoffRoundsUptoRow : OpenClaim := { program := "ytlbhbjhglkhbgaa", sum := "2ddd1f5e1f1fbb67c6a7f0d09b921170723fd95d291304da25bf5a5b7503cb40", func := "loop.example/tallyaudit/laws.FnExactRunoffRounds", spec := "fnExactRunoffRounds", apart := false, narrowed := true }
def FnExactRunoffRoundsUptoSaid : Prop := fnExactRunoffRoundsUptoRow.holds Try.pinned (OpenSpec.upto fnExactRunoffRoundsSpec)

/-- 'laws.FnRunoff', WHERE WHAT IT READS IS OF BULK AT MOST 1048576: true; the input reads as it did. -/
def fnRunoffUptoRow : OpenClaim := { program := "ytlbhbjhglkhbgaa", sum := "2ddd1f5e1f1fbb67c6a7f0d09b921170723fd95d291304da25bf5a5b7503cb40", func := "loop.example/tallyaudit/laws.FnRunoff", spec := "fnRunoff", apart := false, narrowed := true }
def FnRunoffUptoSaid : Prop := fnRunoffUptoRow.holds Try.pinned (OpenSpec.upto fnRunoffSpec)

/-- 'laws.FnRunoffLeast', WHERE WHAT IT READS IS OF BULK AT MOST 1048576: true; the input reads as it did. -/
def fnRunoffLeastUptoRow : OpenClaim := { program := "ytlbhbjhglkhbgaa", sum := "2ddd1f5e1f1fbb67c6a7f0d09b921170723fd95d291304da25bf5a5b7503cb40", func := "loop.example/tallyaudit/laws.FnRunoffLeast", spec := "fnRunoffLeast", apart := false, narrowed := true }
def FnRunoffLeastUptoSaid : Prop := fnRunoffLeastUptoRow.holds Try.pinned (OpenSpec.upto fnRunoffLeastSpec)

/-- 'laws.FnExactRunoffCheck', WHERE WHAT IT READS IS OF BULK AT MOST 1048576: true; the input reads as it did. -/
def fnExactRunoffCheckUptoRow : OpenClaim := { program := "ytlbhbjhglkhbgaa", sum := "2ddd1f5e1f1fbb67c6a7f0d09b921170723fd95d291304da25bf5a5b7503cb40", func := "loop.example/tallyaudit/laws.FnExactRunoffCheck", spec := "fnExactRunoffCheck", unfollowed := true, recurses := true, apart := false, narrowed := true }
def FnExactRunoffCheckUptoSaid : Prop := fnExactRunoffCheckUptoRow.holds Try.pinned (OpenSpec.upto fnExactRunoffCheckSpec)

/-- 'laws.FnRunoffWinner', WHERE WHAT IT READS IS OF BULK AT MOST 1048576: true; the input reads as it did. -/
def fnRunoffWinnerUptoRow : OpenClaim := { program := "ytlbhbjhglkhbgaa", sum := "2ddd1f5e1f1fbb67c6a7f0d09b921170723fd95d291304da25bf5a5b7503cb40", func := "loop.example/tallyaudit/laws.FnRunoffWinner", spec := "fnRunoffWinner", apart := false, narrowed := true }
def FnRunoffWinnerUptoSaid : Prop := fnRunoffWinnerUptoRow.holds Try.pinned (OpenSpec.upto fnRunoffWinnerSpec)

/-- 'laws.FnRunoffCheck', WHERE WHAT IT READS IS OF BULK AT MOST 1048576: true; the input reads as it did. -/
def fnRunoffCheckUptoRow : OpenClaim := { program := "ytlbhbjhglkhbgaa", sum := "2ddd1f5e1f1fbb67c6a7f0d09b921170723fd95d291304da25bf5a5b7503cb40", func := "loop.example/tallyaudit/laws.FnRunoffCheck", spec := "fnRunoffCheck", unfollowed := true, recurses := true, apart := false, narrowed := true }
def FnRunoffCheckUptoSaid : Prop := fnRunoffCheckUptoRow.holds Try.pinned (OpenSpec.upto fnRunoffCheckSpec)

end Rows
end Go.Proofs.Ytlbhbjhglkhbgaa
