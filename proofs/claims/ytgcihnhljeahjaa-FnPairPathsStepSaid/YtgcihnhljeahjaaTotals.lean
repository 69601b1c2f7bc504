/-
  The walks of PilesTotal: the program's and the reference's, and who has more than half.
-/
import Derived.Test.YtgcihnhljeahjaaPiles
import Derived.Test.YtgcihnhljeahjaaFirstPlain
namespace Go.Proofs.Ytgcihnhljeahjaa
set_option linter.unusedVariables false
open Go.RowKit

namespace Bp
/-- all ballots, or -1 -/
def ptotal (ps : List Pile) : Int := if psval ps then psum ps else -1
theorem ptotal_yes {ps : List Pile} (h : psval ps = true) : ptotal ps = psum ps := by simp [ptotal, h]
theorem ptotal_no {ps : List Pile} (h : psval ps = false) : ptotal ps = -1 := by simp [ptotal, h]
theorem ptotal_bd (ps : List Pile) : -1 ≤ ptotal ps ∧ ptotal ps ≤ 1188 := by
  cases h : psval ps
  · rw [ptotal_no h]; omega
  · rw [ptotal_yes h]
    have := psum_bd h
    omega
end Bp




end Go.Proofs.Ytgcihnhljeahjaa
