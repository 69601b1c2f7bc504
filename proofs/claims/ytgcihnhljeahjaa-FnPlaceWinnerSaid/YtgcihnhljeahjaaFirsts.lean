/-
  The walks of first preferences: BallotFirst, the counts, in the program and in the reference.
-/
import Derived.Test.YtgcihnhljeahjaaLots
import Derived.Test.YtgcihnhljeahjaaCountRes
import Derived.Test.YtgcihnhljeahjaaCountSpec
namespace Go.Proofs.Ytgcihnhljeahjaa
set_option linter.unusedVariables false
open Go.RowKit




end Go.Proofs.Ytgcihnhljeahjaa
