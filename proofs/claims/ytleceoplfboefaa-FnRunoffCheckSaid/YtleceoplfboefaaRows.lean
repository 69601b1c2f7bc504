/-
  No cell of these rows narrows 'for every input' (looked for: loops, veiled, ifaces, maps, wideKeys, modest, calm, conditions, laid).
  DERIVED. THE GIVEN ROWS OF THIS SEAT. 3 by the template 'for every input the law returns true; each argument reads behind the call as it read before'; 0 by the template 'total and deterministic' (their statements: YtleceoplfboefaaTotals.lean).
  GIVEN WITH THE SEED: the statements are not yours to turn. If you find one false, say at which input.
  Laid BY PROGRAM, IN A SANDBOX (cutbox-rows.mjs): the forced cells as the released guide's own fill.sh prints them over the translation 8c248cf0eaee1f0e… (all of the seat's roots in one cut). By AI agents, Wed Nov 11 2026. No macro, syntax, notation, axiom, sorry.
-/
import Derived.Test.YtleceoplfboefaaChecked
import GoSem.Claim
import GoSem.ClaimJoined
import GoSem.ClaimMapViews
import Derived.JoinedTies
import Derived.KernelRfl
namespace Go.Proofs.Ytleceoplfboefaa
/- THE CELL 'sum', in the pinned program and in every row, IS THE sha256 OF THE DUMP (.gsa) THAT YtleceoplfboefaaProg.lean LOADS. Nothing in Lean hashes anything: it is a label: what it is worth is what the hold of that sum in a sandbox is worth. -/
noncomputable def Try.pinned : Pinned := { name := "ytleceoplfboefaa", sum := "8c248cf0eaee1f0eb219fca332f1d9a793d4da87e8b7350603220576b01f5a37", checked := Try.checked }
namespace Rows
def none {H : Type} : Left H := { results := [], args := [] }

/-- 'laws.FnExactRunoffRounds': WHATEVER THE INPUT: true; the input reads as it did. -/
def fnExactRunoffRoundsSpec : ChangeSpec := { name := "fnExactRunoffRounds", fn := fun _ => fun
  | [d1, d2] => { results := [.lit (.bool true)], args := [d1, d2] }
  | _ => none }
def fnExactRunoffRoundsRow : OpenClaim := { program := "ytleceoplfboefaa", sum := "8c248cf0eaee1f0eb219fca332f1d9a793d4da87e8b7350603220576b01f5a37", func := "loop.example/tallyaudit/laws.FnExactRunoffRounds", spec := "fnExactRunoffRounds", apart := false }
def FnExactRunoffRoundsSaid : Prop := fnExactRunoffRoundsRow.holds Try.pinned (OpenSpec.ofChange fnExactRunoffRoundsSpec)

/-- ITS FALSE NEIGHBOUR: 'it returns false'. Refute it at one input. -/
def fnExactRunoffRoundsWrong : ChangeSpec := { name := "fnExactRunoffRounds", fn := fun _ => fun
  | [d1, d2] => { results := [.lit (.bool false)], args := [d1, d2] }
  | _ => none }
def FnExactRunoffRoundsWrongFalsely : Prop := fnExactRunoffRoundsRow.holds Try.pinned (OpenSpec.ofChange fnExactRunoffRoundsWrong)

/-- 'laws.FnExactRunoffCheck': WHATEVER THE INPUT: true; the input reads as it did. -/
def fnExactRunoffCheckSpec : ChangeSpec := { name := "fnExactRunoffCheck", fn := fun _ => fun
  | [d1, d2, d3] => { results := [.lit (.bool true)], args := [d1, d2, d3] }
  | _ => none }
def fnExactRunoffCheckRow : OpenClaim := { program := "ytleceoplfboefaa", sum := "8c248cf0eaee1f0eb219fca332f1d9a793d4da87e8b7350603220576b01f5a37", func := "loop.example/tallyaudit/laws.FnExactRunoffCheck", spec := "fnExactRunoffCheck", unfollowed := true, recurses := true, apart := false }
def FnExactRunoffCheckSaid : Prop := fnExactRunoffCheckRow.holds Try.pinned (OpenSpec.ofChange fnExactRunoffCheckSpec)

/-- ITS FALSE NEIGHBOUR: 'it returns false'. Refute it at one input. -/
def fnExactRunoffCheckWrong : ChangeSpec := { name := "fnExactRunoffCheck", fn := fun _ => fun
  | [d1, d2, d3] => { results := [.lit (.bool false)], args := [d1, d2, d3] }
  | _ => none }
def FnExactRunoffCheckWrongFalsely : Prop := fnExactRunoffCheckRow.holds Try.pinned (OpenSpec.ofChange fnExactRunoffCheckWrong)

/-- 'laws.FnRunoffCheck': WHATEVER THE INPUT: true; the input reads as it did. -/
def fnRunoffCheckSpec : ChangeSpec := { name := "fnRunoffCheck", fn := fun _ => fun
  | [d] => { results := [.lit (.bool true)], args := [d] }
  | _ => none }
def fnRunoffCheckRow : OpenClaim := { program := "ytleceoplfboefaa", sum := "8c248cf0eaee1f0eb219fca332f1d9a793d4da87e8b7350603220576b01f5a37", func := "loop.example/tallyaudit/laws.FnRunoffCheck", spec := "fnRunoffCheck", unfollowed := true, recurses := true, apart := false }
def FnRunoffCheckSaid : Prop := fnRunoffCheckRow.holds Try.pinned (OpenSpec.ofChange fnRunoffCheckSpec)

/-- ITS FALSE NEIGHBOUR: 'it returns false'. Refute it at one input. -/
def fnRunoffCheckWrong : ChangeSpec := { name := "fnRunoffCheck", fn := fun _ => fun
  | [d] => { results := [.lit (.bool false)], args := [d] }
  | _ => none }
def FnRunoffCheckWrongFalsely : Prop := fnRunoffCheckRow.holds Try.pinned (OpenSpec.ofChange fnRunoffCheckWrong)

/- THE SECOND FORM. 'bulk': how many values and letters a reading holds, each counted each time it is reached (what is shared counts as often as it is met; a slice's spare places count too). A statement '..UptoSaid' is the law's where the arguments, and the package variables that the reading takes, are together of bulk at most 1048576: NARROWER than '..Said'. Prove '..Said' where nothing that the law and all that it calls make is longer than what came in: it says more and counts as full. Else prove '..UptoSaid'. A law counts once. -/
mutual
def uptoBulk {H : Type} : DataW H → Nat
  | .lit (.string bytes) => bytes.length + 1
  | .lit _ => 1
  | .nil => 1
  | .ptr d => uptoBulk d + 1
  | .slice elems spare => uptoBulkAll elems + uptoBulkAll spare + 1
  | .agg parts => uptoBulkAll parts + 1
  | .iface _ d => uptoBulk d + 1
  | .map entries => uptoBulkEntries entries + 1
  | .held _ => 1
def uptoBulkAll {H : Type} : List (DataW H) → Nat
  | [] => 0
  | d :: r => uptoBulk d + uptoBulkAll r
def uptoBulkEntries {H : Type} : List (Lit × DataW H) → Nat
  | [] => 0
  | x :: r => uptoBulkEntry x + uptoBulkEntries r
def uptoBulkEntry {H : Type} : Lit × DataW H → Nat
  | (.string bytes, d) => bytes.length + uptoBulk d + 1
  | (_, d) => uptoBulk d + 1
 end
def uptoSmall : (H : Type) → List (DataW H) → Bool := fun _ ds => decide (uptoBulkAll ds ≤ 1048576)
def OpenSpec.upto (s : _root_.Go.ChangeSpec) : _root_.Go.OpenSpec := { _root_.Go.OpenSpec.ofChange s with cond := some uptoSmall }

/-- 'laws.FnExactRunoffRounds', WHERE WHAT IT READS IS OF BULK AT MOST 1048576: true; the input reads as it did. -/
def fnExactRunoffRoundsUptoRow : OpenClaim := { program := "ytleceoplfboefaa", sum := "8c248cf0eaee1f0eb219fca332f1d9a793d4da87e8b7350603220576b01f5a37", func := "loop.example/tallyaudit/laws.FnExactRunoffRounds", spec := "fnExactRunoffRounds", apart := false, narrowed := true }
def FnExactRunoffRoundsUptoSaid : Prop := fnExactRunoffRoundsUptoRow.holds Try.pinned (OpenSpec.upto fnExactRunoffRoundsSpec)

/-- 'laws.FnExactRunoffCheck', WHERE WHAT IT READS IS OF BULK AT MOST 1048576: true; the input reads as it did. -/
def fnExactRunoffCheckUptoRow : OpenClaim := { program := "ytleceoplfboefaa", sum := "8c248cf0eaee1f0eb219fca332f1d9a793d4da87e8b7350603220576b01f5a37", func := "loop.example/tallyaudit/laws.FnExactRunoffCheck", spec := "fnExactRunoffCheck", unfollowed := true, recurses := true, apart := false, narrowed := true }
def FnExactRunoffCheckUptoSaid : Prop := fnExactRunoffCheckUptoRow.holds Try.pinned (OpenSpec.upto fnExactRunoffCheckSpec)

/-- 'laws.FnRunoffCheck', WHERE WHAT IT READS IS OF BULK AT MOST 1048576: true; the input reads as it did. -/
def fnRunoffCheckUptoRow : OpenClaim := { program := "ytleceoplfboefaa", sum := "8c248cf0eaee1f0eb219fca332f1d9a793d4da87e8b7350603220576b01f5a37", func := "loop.example/tallyaudit/laws.FnRunoffCheck", spec := "fnRunoffCheck", unfollowed := true, recurses := true, apart := false, narrowed := true }
def FnRunoffCheckUptoSaid : Prop := fnRunoffCheckUptoRow.holds Try.pinned (OpenSpec.upto fnRunoffCheckSpec)

end Rows
end Go.Proofs.Ytleceoplfboefaa
