/-
  No cell of these rows narrows 'for every input' (looked for: loops, veiled, ifaces, maps, wideKeys, modest, calm, conditions, laid).
  DERIVED. THE GIVEN ROWS OF THIS SEAT. 6 by the template 'for every input the law returns true; each argument reads behind the call as it read before'; 0 by the template 'total and deterministic' (their statements: YtdcfpobjiofnmaaTotals.lean).
  GIVEN WITH THE SEED: the statements are not yours to turn. If you find one false, say at which input.
  Laid BY PROGRAM, IN A SANDBOX (cutbox-rows.mjs): the forced cells as the released guide's own fill.sh prints them over the translation af04e9b53056e7d5… (all of the seat's roots in one cut). By AI agents, Wed Nov 11 2026. No macro, syntax, notation, axiom, sorry.
-/
import Derived.Test.YtdcfpobjiofnmaaChecked
import GoSem.Claim
import GoSem.ClaimJoined
import GoSem.ClaimMapViews
import Derived.JoinedTies
import Derived.KernelRfl
namespace Go.Proofs.Ytdcfpobjiofnmaa
/- THE CELL 'sum', in the pinned program and in every row, IS THE sha256 OF THE DUMP (.gsa) THAT YtdcfpobjiofnmaaProg.lean LOADS. Nothing in Lean hashes anything: it is a label: what it is worth is what the hold of that sum in a sandbox is worth. -/
noncomputable def Try.pinned : Pinned := { name := "ytdcfpobjiofnmaa", sum := "af04e9b53056e7d5a0393aacda209bc160b3f11d348d6e19169dea91dc6db2e8", checked := Try.checked }
namespace Rows
def none {H : Type} : Left H := { results := [], args := [] }

/-- 'laws.FnPairTurned': WHATEVER THE INPUT: true; the input reads as it did. -/
def fnPairTurnedSpec : ChangeSpec := { name := "fnPairTurned", fn := fun _ => fun
  | [d1, d2] => { results := [.lit (.bool true)], args := [d1, d2] }
  | _ => none }
def fnPairTurnedRow : OpenClaim := { program := "ytdcfpobjiofnmaa", sum := "af04e9b53056e7d5a0393aacda209bc160b3f11d348d6e19169dea91dc6db2e8", func := "loop.example/tallyaudit/laws.FnPairTurned", spec := "fnPairTurned", unfollowed := true, recurses := true, apart := false }
def FnPairTurnedSaid : Prop := fnPairTurnedRow.holds Try.pinned (OpenSpec.ofChange fnPairTurnedSpec)

/-- ITS FALSE NEIGHBOUR: 'it returns false'. Refute it at one input. -/
def fnPairTurnedWrong : ChangeSpec := { name := "fnPairTurned", fn := fun _ => fun
  | [d1, d2] => { results := [.lit (.bool false)], args := [d1, d2] }
  | _ => none }
def FnPairTurnedWrongFalsely : Prop := fnPairTurnedRow.holds Try.pinned (OpenSpec.ofChange fnPairTurnedWrong)

/-- 'laws.FnRunoffAlone': WHATEVER THE INPUT: true; the input reads as it did. -/
def fnRunoffAloneSpec : ChangeSpec := { name := "fnRunoffAlone", fn := fun _ => fun
  | [d] => { results := [.lit (.bool true)], args := [d] }
  | _ => none }
def fnRunoffAloneRow : OpenClaim := { program := "ytdcfpobjiofnmaa", sum := "af04e9b53056e7d5a0393aacda209bc160b3f11d348d6e19169dea91dc6db2e8", func := "loop.example/tallyaudit/laws.FnRunoffAlone", spec := "fnRunoffAlone", unfollowed := true, recurses := true, apart := false }
def FnRunoffAloneSaid : Prop := fnRunoffAloneRow.holds Try.pinned (OpenSpec.ofChange fnRunoffAloneSpec)

/-- ITS FALSE NEIGHBOUR: 'it returns false'. Refute it at one input. -/
def fnRunoffAloneWrong : ChangeSpec := { name := "fnRunoffAlone", fn := fun _ => fun
  | [d] => { results := [.lit (.bool false)], args := [d] }
  | _ => none }
def FnRunoffAloneWrongFalsely : Prop := fnRunoffAloneRow.holds Try.pinned (OpenSpec.ofChange fnRunoffAloneWrong)

/-- 'laws.FnRunoffTurned': WHATEVER THE INPUT: true; the input reads as it did. -/
def fnRunoffTurnedSpec : ChangeSpec := { name := "fnRunoffTurned", fn := fun _ => fun
  | [d1, d2] => { results := [.lit (.bool true)], args := [d1, d2] }
  | _ => none }
def fnRunoffTurnedRow : OpenClaim := { program := "ytdcfpobjiofnmaa", sum := "af04e9b53056e7d5a0393aacda209bc160b3f11d348d6e19169dea91dc6db2e8", func := "loop.example/tallyaudit/laws.FnRunoffTurned", spec := "fnRunoffTurned", unfollowed := true, recurses := true, apart := false }
def FnRunoffTurnedSaid : Prop := fnRunoffTurnedRow.holds Try.pinned (OpenSpec.ofChange fnRunoffTurnedSpec)

/-- ITS FALSE NEIGHBOUR: 'it returns false'. Refute it at one input. -/
def fnRunoffTurnedWrong : ChangeSpec := { name := "fnRunoffTurned", fn := fun _ => fun
  | [d1, d2] => { results := [.lit (.bool false)], args := [d1, d2] }
  | _ => none }
def FnRunoffTurnedWrongFalsely : Prop := fnRunoffTurnedRow.holds Try.pinned (OpenSpec.ofChange fnRunoffTurnedWrong)

/-- 'laws.FnPlaceTurned': WHATEVER THE INPUT: true; the input reads as it did. -/
def fnPlaceTurnedSpec : ChangeSpec := { name := "fnPlaceTurned", fn := fun _ => fun
  | [d1, d2] => { results := [.lit (.bool true)], args := [d1, d2] }
  | _ => none }
def fnPlaceTurnedRow : OpenClaim := { program := "ytdcfpobjiofnmaa", sum := "af04e9b53056e7d5a0393aacda209bc160b3f11d348d6e19169dea91dc6db2e8", func := "loop.example/tallyaudit/laws.FnPlaceTurned", spec := "fnPlaceTurned", unfollowed := true, recurses := true, apart := false }
def FnPlaceTurnedSaid : Prop := fnPlaceTurnedRow.holds Try.pinned (OpenSpec.ofChange fnPlaceTurnedSpec)

/-- ITS FALSE NEIGHBOUR: 'it returns false'. Refute it at one input. -/
def fnPlaceTurnedWrong : ChangeSpec := { name := "fnPlaceTurned", fn := fun _ => fun
  | [d1, d2] => { results := [.lit (.bool false)], args := [d1, d2] }
  | _ => none }
def FnPlaceTurnedWrongFalsely : Prop := fnPlaceTurnedRow.holds Try.pinned (OpenSpec.ofChange fnPlaceTurnedWrong)

/-- 'laws.FnPluralityMore': WHATEVER THE INPUT: true; the input reads as it did. -/
def fnPluralityMoreSpec : ChangeSpec := { name := "fnPluralityMore", fn := fun _ => fun
  | [d] => { results := [.lit (.bool true)], args := [d] }
  | _ => none }
def fnPluralityMoreRow : OpenClaim := { program := "ytdcfpobjiofnmaa", sum := "af04e9b53056e7d5a0393aacda209bc160b3f11d348d6e19169dea91dc6db2e8", func := "loop.example/tallyaudit/laws.FnPluralityMore", spec := "fnPluralityMore", unfollowed := true, recurses := true, apart := false }
def FnPluralityMoreSaid : Prop := fnPluralityMoreRow.holds Try.pinned (OpenSpec.ofChange fnPluralityMoreSpec)

/-- ITS FALSE NEIGHBOUR: 'it returns false'. Refute it at one input. -/
def fnPluralityMoreWrong : ChangeSpec := { name := "fnPluralityMore", fn := fun _ => fun
  | [d] => { results := [.lit (.bool false)], args := [d] }
  | _ => none }
def FnPluralityMoreWrongFalsely : Prop := fnPluralityMoreRow.holds Try.pinned (OpenSpec.ofChange fnPluralityMoreWrong)

/-- 'laws.FnPluralityTurned': WHATEVER THE INPUT: true; the input reads as it did. -/
def fnPluralityTurnedSpec : ChangeSpec := { name := "fnPluralityTurned", fn := fun _ => fun
  | [d1, d2] => { results := [.lit (.bool true)], args := [d1, d2] }
  | _ => none }
def fnPluralityTurnedRow : OpenClaim := { program := "ytdcfpobjiofnmaa", sum := "af04e9b53056e7d5a0393aacda209bc160b3f11d348d6e19169dea91dc6db2e8", func := "loop.example/tallyaudit/laws.FnPluralityTurned", spec := "fnPluralityTurned", unfollowed := true, recurses := true, apart := false }
def FnPluralityTurnedSaid : Prop := fnPluralityTurnedRow.holds Try.pinned (OpenSpec.ofChange fnPluralityTurnedSpec)

/-- ITS FALSE NEIGHBOUR: 'it returns false'. Refute it at one input. -/
def fnPluralityTurnedWrong : ChangeSpec := { name := "fnPluralityTurned", fn := fun _ => fun
  | [d1, d2] => { results := [.lit (.bool false)], args := [d1, d2] }
  | _ => none }
def FnPluralityTurnedWrongFalsely : Prop := fnPluralityTurnedRow.holds Try.pinned (OpenSpec.ofChange fnPluralityTurnedWrong)

/- THE SECOND FORM. 'bulk': how many values and letters a reading holds, each counted each time it is reached (what is shared counts as often as it is met; a slice's spare places count too). A statement '..UptoSaid' is the law's where the arguments, and the package variables that the reading takes, are together of bulk at most 1048576: NARROWER than '..Said'. Prove '..Said' where nothing that the law and all that it calls make is longer than what came in: it says more and counts as full. Else prove '..UptoSaid'. A law counts once. -/
mutual
def uptoBulk {H : Type} : DataW H → Nat
  | .lit (.string bytes) => bytes.length + 1
  | .lit _ => 1
  | .nil => 1
  | .ptr d => uptoBulk d + 1
  | .slice elems spare => uptoBulkAll elems + uptoBulkAll spare + 1
  | .agg parts => uptoBulkAll parts + 1
  | .iface _ d => uptoBulk d + 1
  | .map entries => uptoBulkEntries entries + 1
  | .held _ => 1
def uptoBulkAll {H : Type} : List (DataW H) → Nat
  | [] => 0
  | d :: r => uptoBulk d + uptoBulkAll r
def uptoBulkEntries {H : Type} : List (Lit × DataW H) → Nat
  | [] => 0
  | x :: r => uptoBulkEntry x + uptoBulkEntries r
def uptoBulkEntry {H : Type} : Lit × DataW H → Nat
  | (.string bytes, d) => bytes.length + uptoBulk d + 1
  | (_, d) => uptoBulk d + 1
 end
def uptoSmall : (H : Type) → List (DataW H) → Bool := fun _ ds => decide (uptoBulkAll ds ≤ 1048576)
def OpenSpec.upto (s : _root_.Go.ChangeSpec) : _root_.Go.OpenSpec := { _root_.Go.OpenSpec.ofChange s with cond := some uptoSmall }

/-- 'laws.FnPairTurned', WHERE WHAT IT READS IS OF BULK AT MOST 1048576: true; the input reads as it did. -/
def fnPairTurnedUptoRow : OpenClaim := { program := "ytdcfpobjiofnmaa", sum := "af04e9b53056e7d5a0393aacda209bc160b3f11d348d6e19169dea91dc6db2e8", func := "loop.example/tallyaudit/laws.FnPairTurned", spec := "fnPairTurned", unfollowed := true, recurses := true, apart := false, narrowed := true }
def FnPairTurnedUptoSaid : Prop := fnPairTurnedUptoRow.holds Try.pinned (OpenSpec.upto fnPairTurnedSpec)

/-- 'laws.FnRunoffAlone', WHERE WHAT IT READS IS OF BULK AT MOST 1048576: true; the input reads as it did. -/
def fnRunoffAloneUptoRow : OpenClaim := { program := "ytdcfpobjiofnmaa", sum := "af04e9b53056e7d5a0393aacda209bc160b3f11d348d6e19169dea91dc6db2e8", func := "loop.example/tallyaudit/laws.FnRunoffAlone", spec := "fnRunoffAlone", unfollowed := true, recurses := true, apart := false, narrowed := true }
def FnRunoffAloneUptoSaid : Prop := fnRunoffAloneUptoRow.holds Try.pinned (OpenSpec.upto fnRunoffAloneSpec)

/-- 'laws.FnRunoffTurned', WHERE WHAT IT READS IS OF BULK AT MOST 1048576: true; the input reads as it did. -/
def fnRunoffTurnedUptoRow : OpenClaim := { program := "ytdcfpobjiofnmaa", sum := "af04e9b53056e7d5a0393aacda209bc160b3f11d348d6e19169dea91dc6db2e8", func := "loop.example/tallyaudit/laws.FnRunoffTurned", spec := "fnRunoffTurned", unfollowed := true, recurses := true, apart := false, narrowed := true }
def FnRunoffTurnedUptoSaid : Prop := fnRunoffTurnedUptoRow.holds Try.pinned (OpenSpec.upto fnRunoffTurnedSpec)

/-- 'laws.FnPlaceTurned', WHERE WHAT IT READS IS OF BULK AT MOST 1048576: true; the input reads as it did. -/
def fnPlaceTurnedUptoRow : OpenClaim := { program := "ytdcfpobjiofnmaa", sum := "af04e9b53056e7d5a0393aacda209bc160b3f11d348d6e19169dea91dc6db2e8", func := "loop.example/tallyaudit/laws.FnPlaceTurned", spec := "fnPlaceTurned", unfollowed := true, recurses := true, apart := false, narrowed := true }
def FnPlaceTurnedUptoSaid : Prop := fnPlaceTurnedUptoRow.holds Try.pinned (OpenSpec.upto fnPlaceTurnedSpec)

/-- 'laws.FnPluralityMore', WHERE WHAT IT READS IS OF BULK AT MOST 1048576: true; the input reads as it did. -/
def fnPluralityMoreUptoRow : OpenClaim := { program := "ytdcfpobjiofnmaa", sum := "af04e9b53056e7d5a0393aacda209bc160b3f11d348d6e19169dea91dc6db2e8", func := "loop.example/tallyaudit/laws.FnPluralityMore", spec := "fnPluralityMore", unfollowed := true, recurses := true, apart := false, narrowed := true }
def FnPluralityMoreUptoSaid : Prop := fnPluralityMoreUptoRow.holds Try.pinned (OpenSpec.upto fnPluralityMoreSpec)

/-- 'laws.FnPluralityTurned', WHERE WHAT IT READS IS OF BULK AT MOST 1048576: true; the input reads as it did. -/
def fnPluralityTurnedUptoRow : OpenClaim := { program := "ytdcfpobjiofnmaa", sum := "af04e9b53056e7d5a0393aacda209bc160b3f11d348d6e19169dea91dc6db2e8", func := "loop.example/tallyaudit/laws.FnPluralityTurned", spec := "fnPluralityTurned", unfollowed := true, recurses := true, apart := false, narrowed := true }
def FnPluralityTurnedUptoSaid : Prop := fnPluralityTurnedUptoRow.holds Try.pinned (OpenSpec.upto fnPluralityTurnedSpec)

end Rows
end Go.Proofs.Ytdcfpobjiofnmaa
