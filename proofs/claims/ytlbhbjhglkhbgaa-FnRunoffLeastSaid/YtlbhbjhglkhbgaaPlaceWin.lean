/-
  The walks of PlaceWinner: the program's and the reference's.
-/
import Derived.Test.YtlbhbjhglkhbgaaPlural
namespace Go.Proofs.Ytlbhbjhglkhbgaa
set_option linter.unusedVariables false
open Go.RowKit

namespace Bp
theorem counted_len (pts : Nat → Nat → Int) (ps : List Pile) (n : Nat) : (counted pts ps n).length = n := countTo_len pts ps n _
theorem counted_bd {pts : Nat → Nat → Int} {ps : List Pile} {n : Nat} (hv : psval ps = true) (hp : ∀ j k, 0 ≤ pts j k ∧ pts j k ≤ 5) : Bd (counted pts ps n) 29700 := by
  have h := countTo_bd (n := n) hv hp ps.length (Nat.le_refl _)
  have := ((psval_iff ps).1 hv).1
  exact h.mono (by omega)
/-- the winner by places, or -1 -/
def plwin (ps : List Pile) (lots : List Int) : Int := if ok ps lots then best (counted (ptsPlace lots.length) ps lots.length) lots else -1
theorem plwin_yes {ps : List Pile} {lots : List Int} (h : ok ps lots = true) : plwin ps lots = best (counted (ptsPlace lots.length) ps lots.length) lots := by simp [plwin, h]
theorem plwin_no {ps : List Pile} {lots : List Int} (h : ok ps lots = false) : plwin ps lots = -1 := by simp [plwin, h]
theorem cres_len {k : Bool} {zs : List Int} {n : Nat} (hk : k = true) (h : (cres k zs).length = n) : zs.length = n := by rw [cres_yes hk] at h; exact h
end Bp


end Go.Proofs.Ytlbhbjhglkhbgaa
