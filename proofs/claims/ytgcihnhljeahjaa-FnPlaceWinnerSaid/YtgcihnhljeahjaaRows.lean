/-
  No cell of these rows narrows 'for every input' (looked for: loops, veiled, ifaces, maps, wideKeys, modest, calm, conditions, laid).
  DERIVED. THE GIVEN ROWS OF THIS SEAT. 5 by the template 'for every input the law returns true; each argument reads behind the call as it read before'; 0 by the template 'total and deterministic' (their statements: YtgcihnhljeahjaaTotals.lean).
  GIVEN WITH THE SEED: the statements are not yours to turn. If you find one false, say at which input.
  Laid BY PROGRAM, IN A SANDBOX (cutbox-rows.mjs): the forced cells as the released guide's own fill.sh prints them over the translation 3165aa42548f923b… (all of the seat's roots in one cut). By AI agents, Wed Nov 11 2026. No macro, syntax, notation, axiom, sorry.
-/
import Derived.Test.YtgcihnhljeahjaaChecked
import GoSem.Claim
import GoSem.ClaimJoined
import GoSem.ClaimMapViews
import Derived.JoinedTies
import Derived.KernelRfl
namespace Go.Proofs.Ytgcihnhljeahjaa
/- THE CELL 'sum', in the pinned program and in every row, IS THE sha256 OF THE DUMP (.gsa) THAT YtgcihnhljeahjaaProg.lean LOADS. Nothing in Lean hashes anything: it is a label: what it is worth is what the hold of that sum in a sandbox is worth. -/
noncomputable def Try.pinned : Pinned := { name := "ytgcihnhljeahjaa", sum := "3165aa42548f923bce322f417e379a7e12b341e535306a138f243ad9267ae85f", checked := Try.checked }
namespace Rows
def none {H : Type} : Left H := { results := [], args := [] }

/-- 'laws.FnExactPairTop': WHATEVER THE INPUT: true; the input reads as it did. -/
def fnExactPairTopSpec : ChangeSpec := { name := "fnExactPairTop", fn := fun _ => fun
  | [d1, d2] => { results := [.lit (.bool true)], args := [d1, d2] }
  | _ => none }
def fnExactPairTopRow : OpenClaim := { program := "ytgcihnhljeahjaa", sum := "3165aa42548f923bce322f417e379a7e12b341e535306a138f243ad9267ae85f", func := "loop.example/tallyaudit/laws.FnExactPairTop", spec := "fnExactPairTop", apart := false }
def FnExactPairTopSaid : Prop := fnExactPairTopRow.holds Try.pinned (OpenSpec.ofChange fnExactPairTopSpec)

/-- ITS FALSE NEIGHBOUR: 'it returns false'. Refute it at one input. -/
def fnExactPairTopWrong : ChangeSpec := { name := "fnExactPairTop", fn := fun _ => fun
  | [d1, d2] => { results := [.lit (.bool false)], args := [d1, d2] }
  | _ => none }
def FnExactPairTopWrongFalsely : Prop := fnExactPairTopRow.holds Try.pinned (OpenSpec.ofChange fnExactPairTopWrong)

/-- 'laws.FnPairPathsStep': WHATEVER THE INPUT: true; the input reads as it did. -/
def fnPairPathsStepSpec : ChangeSpec := { name := "fnPairPathsStep", fn := fun _ => fun
  | [d] => { results := [.lit (.bool true)], args := [d] }
  | _ => none }
def fnPairPathsStepRow : OpenClaim := { program := "ytgcihnhljeahjaa", sum := "3165aa42548f923bce322f417e379a7e12b341e535306a138f243ad9267ae85f", func := "loop.example/tallyaudit/laws.FnPairPathsStep", spec := "fnPairPathsStep", apart := false }
def FnPairPathsStepSaid : Prop := fnPairPathsStepRow.holds Try.pinned (OpenSpec.ofChange fnPairPathsStepSpec)

/-- ITS FALSE NEIGHBOUR: 'it returns false'. Refute it at one input. -/
def fnPairPathsStepWrong : ChangeSpec := { name := "fnPairPathsStep", fn := fun _ => fun
  | [d] => { results := [.lit (.bool false)], args := [d] }
  | _ => none }
def FnPairPathsStepWrongFalsely : Prop := fnPairPathsStepRow.holds Try.pinned (OpenSpec.ofChange fnPairPathsStepWrong)

/-- 'laws.FnPairTopLeast': WHATEVER THE INPUT: true; the input reads as it did. -/
def fnPairTopLeastSpec : ChangeSpec := { name := "fnPairTopLeast", fn := fun _ => fun
  | [d] => { results := [.lit (.bool true)], args := [d] }
  | _ => none }
def fnPairTopLeastRow : OpenClaim := { program := "ytgcihnhljeahjaa", sum := "3165aa42548f923bce322f417e379a7e12b341e535306a138f243ad9267ae85f", func := "loop.example/tallyaudit/laws.FnPairTopLeast", spec := "fnPairTopLeast", apart := false }
def FnPairTopLeastSaid : Prop := fnPairTopLeastRow.holds Try.pinned (OpenSpec.ofChange fnPairTopLeastSpec)

/-- ITS FALSE NEIGHBOUR: 'it returns false'. Refute it at one input. -/
def fnPairTopLeastWrong : ChangeSpec := { name := "fnPairTopLeast", fn := fun _ => fun
  | [d] => { results := [.lit (.bool false)], args := [d] }
  | _ => none }
def FnPairTopLeastWrongFalsely : Prop := fnPairTopLeastRow.holds Try.pinned (OpenSpec.ofChange fnPairTopLeastWrong)

/-- 'laws.FnPairTop': WHATEVER THE INPUT: true; the input reads as it did. -/
def fnPairTopSpec : ChangeSpec := { name := "fnPairTop", fn := fun _ => fun
  | [d] => { results := [.lit (.bool true)], args := [d] }
  | _ => none }
def fnPairTopRow : OpenClaim := { program := "ytgcihnhljeahjaa", sum := "3165aa42548f923bce322f417e379a7e12b341e535306a138f243ad9267ae85f", func := "loop.example/tallyaudit/laws.FnPairTop", spec := "fnPairTop", apart := false }
def FnPairTopSaid : Prop := fnPairTopRow.holds Try.pinned (OpenSpec.ofChange fnPairTopSpec)

/-- ITS FALSE NEIGHBOUR: 'it returns false'. Refute it at one input. -/
def fnPairTopWrong : ChangeSpec := { name := "fnPairTop", fn := fun _ => fun
  | [d] => { results := [.lit (.bool false)], args := [d] }
  | _ => none }
def FnPairTopWrongFalsely : Prop := fnPairTopRow.holds Try.pinned (OpenSpec.ofChange fnPairTopWrong)

/-- 'laws.FnPlaceWinner': WHATEVER THE INPUT: true; the input reads as it did. -/
def fnPlaceWinnerSpec : ChangeSpec := { name := "fnPlaceWinner", fn := fun _ => fun
  | [d] => { results := [.lit (.bool true)], args := [d] }
  | _ => none }
def fnPlaceWinnerRow : OpenClaim := { program := "ytgcihnhljeahjaa", sum := "3165aa42548f923bce322f417e379a7e12b341e535306a138f243ad9267ae85f", func := "loop.example/tallyaudit/laws.FnPlaceWinner", spec := "fnPlaceWinner", unfollowed := true, recurses := true, apart := false }
def FnPlaceWinnerSaid : Prop := fnPlaceWinnerRow.holds Try.pinned (OpenSpec.ofChange fnPlaceWinnerSpec)

/-- ITS FALSE NEIGHBOUR: 'it returns false'. Refute it at one input. -/
def fnPlaceWinnerWrong : ChangeSpec := { name := "fnPlaceWinner", fn := fun _ => fun
  | [d] => { results := [.lit (.bool false)], args := [d] }
  | _ => none }
def FnPlaceWinnerWrongFalsely : Prop := fnPlaceWinnerRow.holds Try.pinned (OpenSpec.ofChange fnPlaceWinnerWrong)

/- THE SECOND FORM. 'bulk': how many values and letters a reading holds, each counted each time it is reached (what is shared counts as often as it is met; a slice's spare places count too). A statement '..UptoSaid' is the law's where the arguments, and the package variables that the reading takes, are together of bulk at most 1048576: NARROWER than '..Said'. Prove '..Said' where nothing that the law and all that it calls make is longer than what came in: it says more and counts as full. Else prove '..UptoSaid'. A law counts once. -/
mutual
def uptoBulk {H : Type} : DataW H → Nat
  | .lit (.string bytes) => bytes.length + 1
  | .lit _ => 1
  | .nil => 1
  | .ptr d => uptoBulk d + 1
  | .slice elems spare => uptoBulkAll elems + uptoBulkAll spare + 1
  | .agg parts => uptoBulkAll parts + 1
  | .iface _ d => uptoBulk d + 1
  | .map entries => uptoBulkEntries entries + 1
  | .held _ => 1
def uptoBulkAll {H : Type} : List (DataW H) → Nat
  | [] => 0
  | d :: r => uptoBulk d + uptoBulkAll r
def uptoBulkEntries {H : Type} : List (Lit × DataW H) → Nat
  | [] => 0
  | x :: r => uptoBulkEntry x + uptoBulkEntries r
def uptoBulkEntry {H : Type} : Lit × DataW H → Nat
  | (.string bytes, d) => bytes.length + uptoBulk d + 1
  | (_, d) => uptoBulk d + 1
 end
def uptoSmall : (H : Type) → List (DataW H) → Bool := fun _ ds => decide (uptoBulkAll ds ≤ 1048576)
def OpenSpec.upto (s : _root_.Go.ChangeSpec) : _root_.Go.OpenSpec := { _root_.Go.OpenSpec.ofChange s with cond := some uptoSmall }

/-- 'laws.FnExactPairTop', WHERE WHAT IT READS IS OF BULK AT MOST 1048576: true; the input reads as it did. -/
def fnExactPairTopUptoRow : OpenClaim := { program := "ytgcihnhljeahjaa", sum := "3165aa42548f923bce322f417e379a7e12b341e535306a138f243ad9267ae85f", func := "loop.example/tallyaudit/laws.FnExactPairTop", spec := "fnExactPairTop", apart := false, narrowed := true }
def FnExactPairTopUptoSaid : Prop := fnExactPairTopUptoRow.holds Try.pinned (OpenSpec.upto fnExactPairTopSpec)

/-- 'laws.FnPairPathsStep', WHERE WHAT IT READS IS OF BULK AT MOST 1048576: true; the input reads as it did. -/
def fnPairPathsStepUptoRow : OpenClaim := { program := "ytgcihnhljeahjaa", sum := "3165aa42548f923bce322f417e379a7e12b341e535306a138f243ad9267ae85f", func := "loop.example/tallyaudit/laws.FnPairPathsStep", spec := "fnPairPathsStep", apart := false, narrowed := true }
def FnPairPathsStepUptoSaid : Prop := fnPairPathsStepUptoRow.holds Try.pinned (OpenSpec.upto fnPairPathsStepSpec)

/-- 'laws.FnPairTopLeast', WHERE WHAT IT READS IS OF BULK AT MOST 1048576: true; the input reads as it did. -/
def fnPairTopLeastUptoRow : OpenClaim := { program := "ytgcihnhljeahjaa", sum := "3165aa42548f923bce322f417e379a7e12b341e535306a138f243ad9267ae85f", func := "loop.example/tallyaudit/laws.FnPairTopLeast", spec := "fnPairTopLeast", apart := false, narrowed := true }
def FnPairTopLeastUptoSaid : Prop := fnPairTopLeastUptoRow.holds Try.pinned (OpenSpec.upto fnPairTopLeastSpec)

/-- 'laws.FnPairTop', WHERE WHAT IT READS IS OF BULK AT MOST 1048576: true; the input reads as it did. -/
def fnPairTopUptoRow : OpenClaim := { program := "ytgcihnhljeahjaa", sum := "3165aa42548f923bce322f417e379a7e12b341e535306a138f243ad9267ae85f", func := "loop.example/tallyaudit/laws.FnPairTop", spec := "fnPairTop", apart := false, narrowed := true }
def FnPairTopUptoSaid : Prop := fnPairTopUptoRow.holds Try.pinned (OpenSpec.upto fnPairTopSpec)

/-- 'laws.FnPlaceWinner', WHERE WHAT IT READS IS OF BULK AT MOST 1048576: true; the input reads as it did. -/
def fnPlaceWinnerUptoRow : OpenClaim := { program := "ytgcihnhljeahjaa", sum := "3165aa42548f923bce322f417e379a7e12b341e535306a138f243ad9267ae85f", func := "loop.example/tallyaudit/laws.FnPlaceWinner", spec := "fnPlaceWinner", unfollowed := true, recurses := true, apart := false, narrowed := true }
def FnPlaceWinnerUptoSaid : Prop := fnPlaceWinnerUptoRow.holds Try.pinned (OpenSpec.upto fnPlaceWinnerSpec)

end Rows
end Go.Proofs.Ytgcihnhljeahjaa
