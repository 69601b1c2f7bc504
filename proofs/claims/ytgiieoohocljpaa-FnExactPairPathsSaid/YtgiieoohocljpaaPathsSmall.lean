/-
  The rows of a table of paths are short.
-/
import Derived.Test.YtgiieoohocljpaaLawTab
import Derived.Test.YtgiieoohocljpaaPathsPlain
namespace Go.Proofs.Ytgiieoohocljpaa
set_option linter.unusedVariables false
theorem smallPairPaths (ps : List Bp.Pile) (q : Int) (i : Nat) : ((tres (Bp.fits ps q) (Bp.paths ps q.toNat)).getD i []).length ≤ 1024 := small_tabs ps q _ _ (fun h => (Bp.fits_n h).2) i
end Go.Proofs.Ytgiieoohocljpaa
