/-
  No cell of these rows narrows 'for every input' (looked for: loops, veiled, ifaces, maps, wideKeys, modest, calm, conditions, laid).
  DERIVED. THE GIVEN ROWS OF THIS SEAT. 5 by the template 'for every input the law returns true; each argument reads behind the call as it read before'; 0 by the template 'total and deterministic' (their statements: YtpkkgkepmbpkeaaTotals.lean).
  GIVEN WITH THE SEED: the statements are not yours to turn. If you find one false, say at which input.
  Laid BY PROGRAM, IN A SANDBOX (cutbox-rows.mjs): the forced cells as the released guide's own fill.sh prints them over the translation fcf567101dd367b2… (all of the seat's roots in one cut). By AI agents, Wed Nov 11 2026. No macro, syntax, notation, axiom, sorry.
-/
import Derived.Test.YtpkkgkepmbpkeaaChecked
import GoSem.Claim
import GoSem.ClaimJoined
import GoSem.ClaimMapViews
import Derived.JoinedTies
import Derived.KernelRfl
namespace Go.Proofs.Ytpkkgkepmbpkeaa
/- THE CELL 'sum', in the pinned program and in every row, IS THE sha256 OF THE DUMP (.gsa) THAT YtpkkgkepmbpkeaaProg.lean LOADS. Nothing in Lean hashes anything: it is a label: what it is worth is what the hold of that sum in a sandbox is worth. -/
noncomputable def Try.pinned : Pinned := { name := "ytpkkgkepmbpkeaa", sum := "fcf567101dd367b26fba248aad1b885c4492ed879b8674be184d491896c4375a", checked := Try.checked }
namespace Rows
def none {H : Type} : Left H := { results := [], args := [] }

/-- 'laws.FnExactTransferQuota': WHATEVER THE INPUT: true; the input reads as it did. -/
def fnExactTransferQuotaSpec : ChangeSpec := { name := "fnExactTransferQuota", fn := fun _ => fun
  | [d1, d2] => { results := [.lit (.bool true)], args := [d1, d2] }
  | _ => none }
def fnExactTransferQuotaRow : OpenClaim := { program := "ytpkkgkepmbpkeaa", sum := "fcf567101dd367b26fba248aad1b885c4492ed879b8674be184d491896c4375a", func := "loop.example/tallyaudit/laws.FnExactTransferQuota", spec := "fnExactTransferQuota", apart := false }
def FnExactTransferQuotaSaid : Prop := fnExactTransferQuotaRow.holds Try.pinned (OpenSpec.ofChange fnExactTransferQuotaSpec)

/-- ITS FALSE NEIGHBOUR: 'it returns false'. Refute it at one input. -/
def fnExactTransferQuotaWrong : ChangeSpec := { name := "fnExactTransferQuota", fn := fun _ => fun
  | [d1, d2] => { results := [.lit (.bool false)], args := [d1, d2] }
  | _ => none }
def FnExactTransferQuotaWrongFalsely : Prop := fnExactTransferQuotaRow.holds Try.pinned (OpenSpec.ofChange fnExactTransferQuotaWrong)

/-- 'laws.FnTransferQuota': WHATEVER THE INPUT: true; the input reads as it did. -/
def fnTransferQuotaSpec : ChangeSpec := { name := "fnTransferQuota", fn := fun _ => fun
  | [d] => { results := [.lit (.bool true)], args := [d] }
  | _ => none }
def fnTransferQuotaRow : OpenClaim := { program := "ytpkkgkepmbpkeaa", sum := "fcf567101dd367b26fba248aad1b885c4492ed879b8674be184d491896c4375a", func := "loop.example/tallyaudit/laws.FnTransferQuota", spec := "fnTransferQuota", apart := false }
def FnTransferQuotaSaid : Prop := fnTransferQuotaRow.holds Try.pinned (OpenSpec.ofChange fnTransferQuotaSpec)

/-- ITS FALSE NEIGHBOUR: 'it returns false'. Refute it at one input. -/
def fnTransferQuotaWrong : ChangeSpec := { name := "fnTransferQuota", fn := fun _ => fun
  | [d] => { results := [.lit (.bool false)], args := [d] }
  | _ => none }
def FnTransferQuotaWrongFalsely : Prop := fnTransferQuotaRow.holds Try.pinned (OpenSpec.ofChange fnTransferQuotaWrong)

/-- 'laws.FnFracAddText': WHATEVER THE INPUT: true; the input reads as it did. -/
def fnFracAddTextSpec : ChangeSpec := { name := "fnFracAddText", fn := fun _ => fun
  | [d] => { results := [.lit (.bool true)], args := [d] }
  | _ => none }
def fnFracAddTextRow : OpenClaim := { program := "ytpkkgkepmbpkeaa", sum := "fcf567101dd367b26fba248aad1b885c4492ed879b8674be184d491896c4375a", func := "loop.example/tallyaudit/laws.FnFracAddText", spec := "fnFracAddText", apart := false }
def FnFracAddTextSaid : Prop := fnFracAddTextRow.holds Try.pinned (OpenSpec.ofChange fnFracAddTextSpec)

/-- ITS FALSE NEIGHBOUR: 'it returns false'. Refute it at one input. -/
def fnFracAddTextWrong : ChangeSpec := { name := "fnFracAddText", fn := fun _ => fun
  | [d] => { results := [.lit (.bool false)], args := [d] }
  | _ => none }
def FnFracAddTextWrongFalsely : Prop := fnFracAddTextRow.holds Try.pinned (OpenSpec.ofChange fnFracAddTextWrong)

/-- 'laws.FnFracTimesOver': WHATEVER THE INPUT: true; the input reads as it did. -/
def fnFracTimesOverSpec : ChangeSpec := { name := "fnFracTimesOver", fn := fun _ => fun
  | [d] => { results := [.lit (.bool true)], args := [d] }
  | _ => none }
def fnFracTimesOverRow : OpenClaim := { program := "ytpkkgkepmbpkeaa", sum := "fcf567101dd367b26fba248aad1b885c4492ed879b8674be184d491896c4375a", func := "loop.example/tallyaudit/laws.FnFracTimesOver", spec := "fnFracTimesOver", apart := false }
def FnFracTimesOverSaid : Prop := fnFracTimesOverRow.holds Try.pinned (OpenSpec.ofChange fnFracTimesOverSpec)

/-- ITS FALSE NEIGHBOUR: 'it returns false'. Refute it at one input. -/
def fnFracTimesOverWrong : ChangeSpec := { name := "fnFracTimesOver", fn := fun _ => fun
  | [d] => { results := [.lit (.bool false)], args := [d] }
  | _ => none }
def FnFracTimesOverWrongFalsely : Prop := fnFracTimesOverRow.holds Try.pinned (OpenSpec.ofChange fnFracTimesOverWrong)

/-- 'laws.FnFracTimes': WHATEVER THE INPUT: true; the input reads as it did. -/
def fnFracTimesSpec : ChangeSpec := { name := "fnFracTimes", fn := fun _ => fun
  | [d] => { results := [.lit (.bool true)], args := [d] }
  | _ => none }
def fnFracTimesRow : OpenClaim := { program := "ytpkkgkepmbpkeaa", sum := "fcf567101dd367b26fba248aad1b885c4492ed879b8674be184d491896c4375a", func := "loop.example/tallyaudit/laws.FnFracTimes", spec := "fnFracTimes", apart := false }
def FnFracTimesSaid : Prop := fnFracTimesRow.holds Try.pinned (OpenSpec.ofChange fnFracTimesSpec)

/-- ITS FALSE NEIGHBOUR: 'it returns false'. Refute it at one input. -/
def fnFracTimesWrong : ChangeSpec := { name := "fnFracTimes", fn := fun _ => fun
  | [d] => { results := [.lit (.bool false)], args := [d] }
  | _ => none }
def FnFracTimesWrongFalsely : Prop := fnFracTimesRow.holds Try.pinned (OpenSpec.ofChange fnFracTimesWrong)

/- THE SECOND FORM. 'bulk': how many values and letters a reading holds, each counted each time it is reached (what is shared counts as often as it is met; a slice's spare places count too). A statement '..UptoSaid' is the law's where the arguments, and the package variables that the reading takes, are together of bulk at most 1048576: NARROWER than '..Said'. Prove '..Said' where nothing that the law and all that it calls make is longer than what came in: it says more and counts as full. Else prove '..UptoSaid'. A law counts once. -/
mutual
def uptoBulk {H : Type} : DataW H → Nat
  | .lit (.string bytes) => bytes.length + 1
  | .lit _ => 1
  | .nil => 1
  | .ptr d => uptoBulk d + 1
  | .slice elems spare => uptoBulkAll elems + uptoBulkAll spare + 1
  | .agg parts => uptoBulkAll parts + 1
  | .iface _ d => uptoBulk d + 1
  | .map entries => uptoBulkEntries entries + 1
  | .held _ => 1
def uptoBulkAll {H : Type} : List (DataW H) → Nat
  | [] => 0
  | d :: r => uptoBulk d + uptoBulkAll r
def uptoBulkEntries {H : Type} : List (Lit × DataW H) → Nat
  | [] => 0
  | x :: r => uptoBulkEntry x + uptoBulkEntries r
def uptoBulkEntry {H : Type} : Lit × DataW H → Nat
  | (.string bytes, d) => bytes.length + uptoBulk d + 1
  | (_, d) => uptoBulk d + 1
 end
def uptoSmall : (H : Type) → List (DataW H) → Bool := fun _ ds => decide (uptoBulkAll ds ≤ 1048576)
def OpenSpec.upto (s : _root_.Go.ChangeSpec) : _root_.Go.OpenSpec := { _root_.Go.OpenSpec.ofChange s with cond := some uptoSmall }

/-- 'laws.FnExactTransferQuota', WHERE WHAT IT READS IS OF BULK AT MOST 1048576: true; the input reads as it did. -/
def fnExactTransferQuotaUptoRow : OpenClaim := { program := "ytpkkgkepmbpkeaa", sum := "fcf567101dd367b26fba248aad1b885c4492ed879b8674be184d491896c4375a", func := "loop.example/tallyaudit/laws.FnExactTransferQuota", spec := "fnExactTransferQuota", apart := false, narrowed := true }
def FnExactTransferQuotaUptoSaid : Prop := fnExactTransferQuotaUptoRow.holds Try.pinned (OpenSpec.upto fnExactTransferQuotaSpec)

/-- 'laws.FnTransferQuota', WHERE WHAT IT READS IS OF BULK AT MOST 1048576: true; the input reads as it did. -/
def fnTransferQuotaUptoRow : OpenClaim := { program := "ytpkkgkepmbpkeaa", sum := "fcf567101dd367b26fba248aad1b885c4492ed879b8674be184d491896c4375a", func := "loop.example/tallyaudit/laws.FnTransferQuota", spec := "fnTransferQuota", apart := false, narrowed := true }
def FnTransferQuotaUptoSaid : Prop := fnTransferQuotaUptoRow.holds Try.pinned (OpenSpec.upto fnTransferQuotaSpec)

/-- 'laws.FnFracAddText', WHERE WHAT IT READS IS OF BULK AT MOST 1048576: true; the input reads as it did. -/
def fnFracAddTextUptoRow : OpenClaim := { program := "ytpkkgkepmbpkeaa", sum := "fcf567101dd367b26fba248aad1b885c4492ed879b8674be184d491896c4375a", func := "loop.example/tallyaudit/laws.FnFracAddText", spec := "fnFracAddText", apart := false, narrowed := true }
def FnFracAddTextUptoSaid : Prop := fnFracAddTextUptoRow.holds Try.pinned (OpenSpec.upto fnFracAddTextSpec)

/-- 'laws.FnFracTimesOver', WHERE WHAT IT READS IS OF BULK AT MOST 1048576: true; the input reads as it did. -/
def fnFracTimesOverUptoRow : OpenClaim := { program := "ytpkkgkepmbpkeaa", sum := "fcf567101dd367b26fba248aad1b885c4492ed879b8674be184d491896c4375a", func := "loop.example/tallyaudit/laws.FnFracTimesOver", spec := "fnFracTimesOver", apart := false, narrowed := true }
def FnFracTimesOverUptoSaid : Prop := fnFracTimesOverUptoRow.holds Try.pinned (OpenSpec.upto fnFracTimesOverSpec)

/-- 'laws.FnFracTimes', WHERE WHAT IT READS IS OF BULK AT MOST 1048576: true; the input reads as it did. -/
def fnFracTimesUptoRow : OpenClaim := { program := "ytpkkgkepmbpkeaa", sum := "fcf567101dd367b26fba248aad1b885c4492ed879b8674be184d491896c4375a", func := "loop.example/tallyaudit/laws.FnFracTimes", spec := "fnFracTimes", apart := false, narrowed := true }
def FnFracTimesUptoSaid : Prop := fnFracTimesUptoRow.holds Try.pinned (OpenSpec.upto fnFracTimesSpec)

end Rows
end Go.Proofs.Ytpkkgkepmbpkeaa
