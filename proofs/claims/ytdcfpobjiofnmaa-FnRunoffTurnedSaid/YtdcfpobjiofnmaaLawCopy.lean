/-
  Copies and marks of numbers and truths in the statements' own functions.
-/
import Derived.Test.YtdcfpobjiofnmaaLawMem
import Derived.Test.YtdcfpobjiofnmaaBools
namespace Go.Proofs.Ytdcfpobjiofnmaa
set_option linter.unusedVariables false
open Go.RowKit

/-- a list copied up to place k -/
def copiedL {α : Type} (d : α) (xs : List α) (k : Nat) : List α := xs.take k ++ List.replicate (xs.length - k) d
theorem copiedL_zero {α : Type} (d : α) (xs : List α) : copiedL d xs 0 = List.replicate xs.length d := by simp [copiedL]
theorem copiedL_all {α : Type} (d : α) (xs : List α) : copiedL d xs xs.length = xs := by simp [copiedL]
theorem copiedL_len {α : Type} (d : α) (xs : List α) (k : Nat) (h : k ≤ xs.length) : (copiedL d xs k).length = xs.length := by simp [copiedL]; omega
theorem copiedL_set {α : Type} (d : α) (xs : List α) (k : Nat) (h : k < xs.length) : (copiedL d xs k).set k (xs.getD k d) = copiedL d xs (k + 1) := by
  have e : xs.getD k d = xs[k] := by simp [List.getD, h]
  rw [e]
  unfold copiedL
  rw [List.set_append_right _ _ (by simp; omega), List.take_succ_eq_append_getElem h, List.append_assoc]
  congr 1
  have h1 : xs.length - k = (xs.length - (k + 1)) + 1 := by omega
  have h2 : k - (xs.take k).length = 0 := by simp; omega
  rw [h1, h2, List.replicate_succ]
  rfl



end Go.Proofs.Ytdcfpobjiofnmaa
