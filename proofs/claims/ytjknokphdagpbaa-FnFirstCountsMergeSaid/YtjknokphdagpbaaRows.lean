/-
  No cell of these rows narrows 'for every input' (looked for: loops, veiled, ifaces, maps, wideKeys, modest, calm, conditions, laid).
  DERIVED. THE GIVEN ROWS OF THIS SEAT. 9 by the template 'for every input the law returns true; each argument reads behind the call as it read before'; 0 by the template 'total and deterministic' (their statements: YtjknokphdagpbaaTotals.lean).
  GIVEN WITH THE SEED: the statements are not yours to turn. If you find one false, say at which input.
  Laid BY PROGRAM, IN A SANDBOX (cutbox-rows.mjs): the forced cells as the released guide's own fill.sh prints them over the translation 0d9d6542f081c123… (all of the seat's roots in one cut). By AI agents, Wed Nov 11 2026. No macro, syntax, notation, axiom, sorry.
-/
import Derived.Test.YtjknokphdagpbaaChecked
import GoSem.Claim
import GoSem.ClaimJoined
import GoSem.ClaimMapViews
import Derived.JoinedTies
import Derived.KernelRfl
namespace Go.Proofs.Ytjknokphdagpbaa
/- THE CELL 'sum', in the pinned program and in every row, IS THE sha256 OF THE DUMP (.gsa) THAT YtjknokphdagpbaaProg.lean LOADS. Nothing in Lean hashes anything: it is a label: what it is worth is what the hold of that sum in a sandbox is worth. -/
noncomputable def Try.pinned : Pinned := { name := "ytjknokphdagpbaa", sum := "0d9d6542f081c123e115ba86d3e577117acf09639c504567abd8b18b675ea02c", checked := Try.checked }
namespace Rows
def none {H : Type} : Left H := { results := [], args := [] }

/-- 'laws.FnExactPlaceCounts': WHATEVER THE INPUT: true; the input reads as it did. -/
def fnExactPlaceCountsSpec : ChangeSpec := { name := "fnExactPlaceCounts", fn := fun _ => fun
  | [d1, d2] => { results := [.lit (.bool true)], args := [d1, d2] }
  | _ => none }
def fnExactPlaceCountsRow : OpenClaim := { program := "ytjknokphdagpbaa", sum := "0d9d6542f081c123e115ba86d3e577117acf09639c504567abd8b18b675ea02c", func := "loop.example/tallyaudit/laws.FnExactPlaceCounts", spec := "fnExactPlaceCounts", unfollowed := true, recurses := true, apart := false }
def FnExactPlaceCountsSaid : Prop := fnExactPlaceCountsRow.holds Try.pinned (OpenSpec.ofChange fnExactPlaceCountsSpec)

/-- ITS FALSE NEIGHBOUR: 'it returns false'. Refute it at one input. -/
def fnExactPlaceCountsWrong : ChangeSpec := { name := "fnExactPlaceCounts", fn := fun _ => fun
  | [d1, d2] => { results := [.lit (.bool false)], args := [d1, d2] }
  | _ => none }
def FnExactPlaceCountsWrongFalsely : Prop := fnExactPlaceCountsRow.holds Try.pinned (OpenSpec.ofChange fnExactPlaceCountsWrong)

/-- 'laws.FnExactLastCounts': WHATEVER THE INPUT: true; the input reads as it did. -/
def fnExactLastCountsSpec : ChangeSpec := { name := "fnExactLastCounts", fn := fun _ => fun
  | [d1, d2] => { results := [.lit (.bool true)], args := [d1, d2] }
  | _ => none }
def fnExactLastCountsRow : OpenClaim := { program := "ytjknokphdagpbaa", sum := "0d9d6542f081c123e115ba86d3e577117acf09639c504567abd8b18b675ea02c", func := "loop.example/tallyaudit/laws.FnExactLastCounts", spec := "fnExactLastCounts", unfollowed := true, recurses := true, apart := false }
def FnExactLastCountsSaid : Prop := fnExactLastCountsRow.holds Try.pinned (OpenSpec.ofChange fnExactLastCountsSpec)

/-- ITS FALSE NEIGHBOUR: 'it returns false'. Refute it at one input. -/
def fnExactLastCountsWrong : ChangeSpec := { name := "fnExactLastCounts", fn := fun _ => fun
  | [d1, d2] => { results := [.lit (.bool false)], args := [d1, d2] }
  | _ => none }
def FnExactLastCountsWrongFalsely : Prop := fnExactLastCountsRow.holds Try.pinned (OpenSpec.ofChange fnExactLastCountsWrong)

/-- 'laws.FnExactDepthCounts': WHATEVER THE INPUT: true; the input reads as it did. -/
def fnExactDepthCountsSpec : ChangeSpec := { name := "fnExactDepthCounts", fn := fun _ => fun
  | [d1, d2, d3] => { results := [.lit (.bool true)], args := [d1, d2, d3] }
  | _ => none }
def fnExactDepthCountsRow : OpenClaim := { program := "ytjknokphdagpbaa", sum := "0d9d6542f081c123e115ba86d3e577117acf09639c504567abd8b18b675ea02c", func := "loop.example/tallyaudit/laws.FnExactDepthCounts", spec := "fnExactDepthCounts", unfollowed := true, recurses := true, apart := false }
def FnExactDepthCountsSaid : Prop := fnExactDepthCountsRow.holds Try.pinned (OpenSpec.ofChange fnExactDepthCountsSpec)

/-- ITS FALSE NEIGHBOUR: 'it returns false'. Refute it at one input. -/
def fnExactDepthCountsWrong : ChangeSpec := { name := "fnExactDepthCounts", fn := fun _ => fun
  | [d1, d2, d3] => { results := [.lit (.bool false)], args := [d1, d2, d3] }
  | _ => none }
def FnExactDepthCountsWrongFalsely : Prop := fnExactDepthCountsRow.holds Try.pinned (OpenSpec.ofChange fnExactDepthCountsWrong)

/-- 'laws.FnExactPlaceWinner': WHATEVER THE INPUT: true; the input reads as it did. -/
def fnExactPlaceWinnerSpec : ChangeSpec := { name := "fnExactPlaceWinner", fn := fun _ => fun
  | [d1, d2] => { results := [.lit (.bool true)], args := [d1, d2] }
  | _ => none }
def fnExactPlaceWinnerRow : OpenClaim := { program := "ytjknokphdagpbaa", sum := "0d9d6542f081c123e115ba86d3e577117acf09639c504567abd8b18b675ea02c", func := "loop.example/tallyaudit/laws.FnExactPlaceWinner", spec := "fnExactPlaceWinner", unfollowed := true, recurses := true, apart := false }
def FnExactPlaceWinnerSaid : Prop := fnExactPlaceWinnerRow.holds Try.pinned (OpenSpec.ofChange fnExactPlaceWinnerSpec)

/-- ITS FALSE NEIGHBOUR: 'it returns false'. Refute it at one input. -/
def fnExactPlaceWinnerWrong : ChangeSpec := { name := "fnExactPlaceWinner", fn := fun _ => fun
  | [d1, d2] => { results := [.lit (.bool false)], args := [d1, d2] }
  | _ => none }
def FnExactPlaceWinnerWrongFalsely : Prop := fnExactPlaceWinnerRow.holds Try.pinned (OpenSpec.ofChange fnExactPlaceWinnerWrong)

/-- 'laws.FnFirstCountsMerge': WHATEVER THE INPUT: true; the input reads as it did. -/
def fnFirstCountsMergeSpec : ChangeSpec := { name := "fnFirstCountsMerge", fn := fun _ => fun
  | [d1, d2] => { results := [.lit (.bool true)], args := [d1, d2] }
  | _ => none }
def fnFirstCountsMergeRow : OpenClaim := { program := "ytjknokphdagpbaa", sum := "0d9d6542f081c123e115ba86d3e577117acf09639c504567abd8b18b675ea02c", func := "loop.example/tallyaudit/laws.FnFirstCountsMerge", spec := "fnFirstCountsMerge", apart := false }
def FnFirstCountsMergeSaid : Prop := fnFirstCountsMergeRow.holds Try.pinned (OpenSpec.ofChange fnFirstCountsMergeSpec)

/-- ITS FALSE NEIGHBOUR: 'it returns false'. Refute it at one input. -/
def fnFirstCountsMergeWrong : ChangeSpec := { name := "fnFirstCountsMerge", fn := fun _ => fun
  | [d1, d2] => { results := [.lit (.bool false)], args := [d1, d2] }
  | _ => none }
def FnFirstCountsMergeWrongFalsely : Prop := fnFirstCountsMergeRow.holds Try.pinned (OpenSpec.ofChange fnFirstCountsMergeWrong)

/-- 'laws.FnExactPluralityWinner': WHATEVER THE INPUT: true; the input reads as it did. -/
def fnExactPluralityWinnerSpec : ChangeSpec := { name := "fnExactPluralityWinner", fn := fun _ => fun
  | [d1, d2] => { results := [.lit (.bool true)], args := [d1, d2] }
  | _ => none }
def fnExactPluralityWinnerRow : OpenClaim := { program := "ytjknokphdagpbaa", sum := "0d9d6542f081c123e115ba86d3e577117acf09639c504567abd8b18b675ea02c", func := "loop.example/tallyaudit/laws.FnExactPluralityWinner", spec := "fnExactPluralityWinner", apart := false }
def FnExactPluralityWinnerSaid : Prop := fnExactPluralityWinnerRow.holds Try.pinned (OpenSpec.ofChange fnExactPluralityWinnerSpec)

/-- ITS FALSE NEIGHBOUR: 'it returns false'. Refute it at one input. -/
def fnExactPluralityWinnerWrong : ChangeSpec := { name := "fnExactPluralityWinner", fn := fun _ => fun
  | [d1, d2] => { results := [.lit (.bool false)], args := [d1, d2] }
  | _ => none }
def FnExactPluralityWinnerWrongFalsely : Prop := fnExactPluralityWinnerRow.holds Try.pinned (OpenSpec.ofChange fnExactPluralityWinnerWrong)

/-- 'laws.FnExactFirstCounts': WHATEVER THE INPUT: true; the input reads as it did. -/
def fnExactFirstCountsSpec : ChangeSpec := { name := "fnExactFirstCounts", fn := fun _ => fun
  | [d1, d2] => { results := [.lit (.bool true)], args := [d1, d2] }
  | _ => none }
def fnExactFirstCountsRow : OpenClaim := { program := "ytjknokphdagpbaa", sum := "0d9d6542f081c123e115ba86d3e577117acf09639c504567abd8b18b675ea02c", func := "loop.example/tallyaudit/laws.FnExactFirstCounts", spec := "fnExactFirstCounts", apart := false }
def FnExactFirstCountsSaid : Prop := fnExactFirstCountsRow.holds Try.pinned (OpenSpec.ofChange fnExactFirstCountsSpec)

/-- ITS FALSE NEIGHBOUR: 'it returns false'. Refute it at one input. -/
def fnExactFirstCountsWrong : ChangeSpec := { name := "fnExactFirstCounts", fn := fun _ => fun
  | [d1, d2] => { results := [.lit (.bool false)], args := [d1, d2] }
  | _ => none }
def FnExactFirstCountsWrongFalsely : Prop := fnExactFirstCountsRow.holds Try.pinned (OpenSpec.ofChange fnExactFirstCountsWrong)

/-- 'laws.FnExactPluralityMargin': WHATEVER THE INPUT: true; the input reads as it did. -/
def fnExactPluralityMarginSpec : ChangeSpec := { name := "fnExactPluralityMargin", fn := fun _ => fun
  | [d1, d2] => { results := [.lit (.bool true)], args := [d1, d2] }
  | _ => none }
def fnExactPluralityMarginRow : OpenClaim := { program := "ytjknokphdagpbaa", sum := "0d9d6542f081c123e115ba86d3e577117acf09639c504567abd8b18b675ea02c", func := "loop.example/tallyaudit/laws.FnExactPluralityMargin", spec := "fnExactPluralityMargin", apart := false }
def FnExactPluralityMarginSaid : Prop := fnExactPluralityMarginRow.holds Try.pinned (OpenSpec.ofChange fnExactPluralityMarginSpec)

/-- ITS FALSE NEIGHBOUR: 'it returns false'. Refute it at one input. -/
def fnExactPluralityMarginWrong : ChangeSpec := { name := "fnExactPluralityMargin", fn := fun _ => fun
  | [d1, d2] => { results := [.lit (.bool false)], args := [d1, d2] }
  | _ => none }
def FnExactPluralityMarginWrongFalsely : Prop := fnExactPluralityMarginRow.holds Try.pinned (OpenSpec.ofChange fnExactPluralityMarginWrong)

/-- 'laws.FnExactDepthWinner': WHATEVER THE INPUT: true; the input reads as it did. -/
def fnExactDepthWinnerSpec : ChangeSpec := { name := "fnExactDepthWinner", fn := fun _ => fun
  | [d1, d2] => { results := [.lit (.bool true)], args := [d1, d2] }
  | _ => none }
def fnExactDepthWinnerRow : OpenClaim := { program := "ytjknokphdagpbaa", sum := "0d9d6542f081c123e115ba86d3e577117acf09639c504567abd8b18b675ea02c", func := "loop.example/tallyaudit/laws.FnExactDepthWinner", spec := "fnExactDepthWinner", unfollowed := true, recurses := true, apart := false }
def FnExactDepthWinnerSaid : Prop := fnExactDepthWinnerRow.holds Try.pinned (OpenSpec.ofChange fnExactDepthWinnerSpec)

/-- ITS FALSE NEIGHBOUR: 'it returns false'. Refute it at one input. -/
def fnExactDepthWinnerWrong : ChangeSpec := { name := "fnExactDepthWinner", fn := fun _ => fun
  | [d1, d2] => { results := [.lit (.bool false)], args := [d1, d2] }
  | _ => none }
def FnExactDepthWinnerWrongFalsely : Prop := fnExactDepthWinnerRow.holds Try.pinned (OpenSpec.ofChange fnExactDepthWinnerWrong)

/- THE SECOND FORM. 'bulk': how many values and letters a reading holds, each counted each time it is reached (what is shared counts as often as it is met; a slice's spare places count too). A statement '..UptoSaid' is the law's where the arguments, and the package variables that the reading takes, are together of bulk at most 1048576: NARROWER than '..Said'. Prove '..Said' where nothing that the law and all that it calls make is longer than what came in: it says more and counts as full. Else prove '..UptoSaid'. A law counts once. -/
mutual
def uptoBulk {H : Type} : DataW H → Nat
  | .lit (.string bytes) => bytes.length + 1
  | .lit _ => 1
  | .nil => 1
  | .ptr d => uptoBulk d + 1
  | .slice elems spare => uptoBulkAll elems + uptoBulkAll spare + 1
  | .agg parts => uptoBulkAll parts + 1
  | .iface _ d => uptoBulk d + 1
  | .map entries => uptoBulkEntries entries + 1
  | .held _ => 1
def uptoBulkAll {H : Type} : List (DataW H) → Nat
  | [] => 0
  | d :: r => uptoBulk d + uptoBulkAll r
def uptoBulkEntries {H : Type} : List (Lit × DataW H) → Nat
  | [] => 0
  | x :: r => uptoBulkEntry x + uptoBulkEntries r
def uptoBulkEntry {H : Type} : Lit × DataW H → Nat
  | (.string bytes, d) => bytes.length + uptoBulk d + 1
  | (_, d) => uptoBulk d + 1
 end
def uptoSmall : (H : Type) → List (DataW H) → Bool := fun _ ds => decide (uptoBulkAll ds ≤ 1048576)
def OpenSpec.upto (s : _root_.Go.ChangeSpec) : _root_.Go.OpenSpec := { _root_.Go.OpenSpec.ofChange s with cond := some uptoSmall }

/-- 'laws.FnExactPlaceCounts', WHERE WHAT IT READS IS OF BULK AT MOST 1048576: true; the input reads as it did. -/
def fnExactPlaceCountsUptoRow : OpenClaim := { program := "ytjknokphdagpbaa", sum := "0d9d6542f081c123e115ba86d3e577117acf09639c504567abd8b18b675ea02c", func := "loop.example/tallyaudit/laws.FnExactPlaceCounts", spec := "fnExactPlaceCounts", unfollowed := true, recurses := true, apart := false, narrowed := true }
def FnExactPlaceCountsUptoSaid : Prop := fnExactPlaceCountsUptoRow.holds Try.pinned (OpenSpec.upto fnExactPlaceCountsSpec)

/-- 'laws.FnExactLastCounts', WHERE WHAT IT READS IS OF BULK AT MOST 1048576: true; the input reads as it did. -/
def fnExactLastCountsUptoRow : OpenClaim := { program := "ytjknokphdagpbaa", sum := "0d9d6542f081c123e115ba86d3e577117acf09639c504567abd8b18b675ea02c", func := "loop.example/tallyaudit/laws.FnExactLastCounts", spec := "fnExactLastCounts", unfollowed := true, recurses := true, apart := false, narrowed := true }
def FnExactLastCountsUptoSaid : Prop := fnExactLastCountsUptoRow.holds Try.pinned (OpenSpec.upto fnExactLastCountsSpec)

/-- 'laws.FnExactDepthCounts', WHERE WHAT IT READS IS OF BULK AT MOST 1048576: true; the input reads as it did. -/
def fnExactDepthCountsUptoRow : OpenClaim := { program := "ytjknokphdagpbaa", sum := "0d9d6542f081c123e115ba86d3e577117acf09639c504567abd8b18b675ea02c", func := "loop.example/tallyaudit/laws.FnExactDepthCounts", spec := "fnExactDepthCounts", unfollowed := true, recurses := true, apart := false, narrowed := true }
def FnExactDepthCountsUptoSaid : Prop := fnExactDepthCountsUptoRow.holds Try.pinned (OpenSpec.upto fnExactDepthCountsSpec)

/-- 'laws.FnExactPlaceWinner', WHERE WHAT IT READS IS OF BULK AT MOST 1048576: true; the input reads as it did. -/
def fnExactPlaceWinnerUptoRow : OpenClaim := { program := "ytjknokphdagpbaa", sum := "0d9d6542f081c123e115ba86d3e577117acf09639c504567abd8b18b675ea02c", func := "loop.example/tallyaudit/laws.FnExactPlaceWinner", spec := "fnExactPlaceWinner", unfollowed := true, recurses := true, apart := false, narrowed := true }
def FnExactPlaceWinnerUptoSaid : Prop := fnExactPlaceWinnerUptoRow.holds Try.pinned (OpenSpec.upto fnExactPlaceWinnerSpec)

/-- 'laws.FnFirstCountsMerge', WHERE WHAT IT READS IS OF BULK AT MOST 1048576: true; the input reads as it did. -/
def fnFirstCountsMergeUptoRow : OpenClaim := { program := "ytjknokphdagpbaa", sum := "0d9d6542f081c123e115ba86d3e577117acf09639c504567abd8b18b675ea02c", func := "loop.example/tallyaudit/laws.FnFirstCountsMerge", spec := "fnFirstCountsMerge", apart := false, narrowed := true }
def FnFirstCountsMergeUptoSaid : Prop := fnFirstCountsMergeUptoRow.holds Try.pinned (OpenSpec.upto fnFirstCountsMergeSpec)

/-- 'laws.FnExactPluralityWinner', WHERE WHAT IT READS IS OF BULK AT MOST 1048576: true; the input reads as it did. -/
def fnExactPluralityWinnerUptoRow : OpenClaim := { program := "ytjknokphdagpbaa", sum := "0d9d6542f081c123e115ba86d3e577117acf09639c504567abd8b18b675ea02c", func := "loop.example/tallyaudit/laws.FnExactPluralityWinner", spec := "fnExactPluralityWinner", apart := false, narrowed := true }
def FnExactPluralityWinnerUptoSaid : Prop := fnExactPluralityWinnerUptoRow.holds Try.pinned (OpenSpec.upto fnExactPluralityWinnerSpec)

/-- 'laws.FnExactFirstCounts', WHERE WHAT IT READS IS OF BULK AT MOST 1048576: true; the input reads as it did. -/
def fnExactFirstCountsUptoRow : OpenClaim := { program := "ytjknokphdagpbaa", sum := "0d9d6542f081c123e115ba86d3e577117acf09639c504567abd8b18b675ea02c", func := "loop.example/tallyaudit/laws.FnExactFirstCounts", spec := "fnExactFirstCounts", apart := false, narrowed := true }
def FnExactFirstCountsUptoSaid : Prop := fnExactFirstCountsUptoRow.holds Try.pinned (OpenSpec.upto fnExactFirstCountsSpec)

/-- 'laws.FnExactPluralityMargin', WHERE WHAT IT READS IS OF BULK AT MOST 1048576: true; the input reads as it did. -/
def fnExactPluralityMarginUptoRow : OpenClaim := { program := "ytjknokphdagpbaa", sum := "0d9d6542f081c123e115ba86d3e577117acf09639c504567abd8b18b675ea02c", func := "loop.example/tallyaudit/laws.FnExactPluralityMargin", spec := "fnExactPluralityMargin", apart := false, narrowed := true }
def FnExactPluralityMarginUptoSaid : Prop := fnExactPluralityMarginUptoRow.holds Try.pinned (OpenSpec.upto fnExactPluralityMarginSpec)

/-- 'laws.FnExactDepthWinner', WHERE WHAT IT READS IS OF BULK AT MOST 1048576: true; the input reads as it did. -/
def fnExactDepthWinnerUptoRow : OpenClaim := { program := "ytjknokphdagpbaa", sum := "0d9d6542f081c123e115ba86d3e577117acf09639c504567abd8b18b675ea02c", func := "loop.example/tallyaudit/laws.FnExactDepthWinner", spec := "fnExactDepthWinner", unfollowed := true, recurses := true, apart := false, narrowed := true }
def FnExactDepthWinnerUptoSaid : Prop := fnExactDepthWinnerUptoRow.holds Try.pinned (OpenSpec.upto fnExactDepthWinnerSpec)

end Rows
end Go.Proofs.Ytjknokphdagpbaa
