/-
  The walks of the program's strengths of paths: pairPaths, PairPaths.
-/
import Derived.Test.YtdcfpobjiofnmaaPairS
import Derived.Test.YtdcfpobjiofnmaaPathsPlain
namespace Go.Proofs.Ytdcfpobjiofnmaa
set_option linter.unusedVariables false
open Go.RowKit

theorem max_min_if (v1 v2 v3 : Int) : (if v1 < (if v3 < v2 then v3 else v2) then (if v3 < v2 then v3 else v2) else v1) = max v1 (min v2 v3) := by
  have e : min v2 v3 = if v3 < v2 then v3 else v2 := by split <;> omega
  rw [← e]
  split <;> omega

end Go.Proofs.Ytdcfpobjiofnmaa
