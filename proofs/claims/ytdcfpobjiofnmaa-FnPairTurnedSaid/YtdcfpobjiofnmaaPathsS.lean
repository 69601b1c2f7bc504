/-
  The walks of the reference's strengths of paths: l13Paths, PairPaths.
-/
import Derived.Test.YtdcfpobjiofnmaaPathsI
namespace Go.Proofs.Ytdcfpobjiofnmaa
set_option linter.unusedVariables false
open Go.RowKit


end Go.Proofs.Ytdcfpobjiofnmaa
