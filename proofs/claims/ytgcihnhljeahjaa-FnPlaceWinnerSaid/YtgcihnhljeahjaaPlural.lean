/-
  The walks of FirstCounts, PluralityWinner, PluralityMargin: the program's and the reference's.
-/
import Derived.Test.YtgcihnhljeahjaaFirsts
import Derived.Test.YtgcihnhljeahjaaMost
namespace Go.Proofs.Ytgcihnhljeahjaa
set_option linter.unusedVariables false
open Go.RowKit

namespace Bp
/-- do piles and lots belong together? -/
def ok (ps : List Pile) (lots : List Int) : Bool := lval lots && fits ps lots.length
theorem ok_lval {ps : List Pile} {lots : List Int} (h : ok ps lots = true) : lval lots = true := by simp only [ok, Bool.and_eq_true] at h; exact h.1
theorem ok_fits {ps : List Pile} {lots : List Int} (h : ok ps lots = true) : fits ps lots.length = true := by simp only [ok, Bool.and_eq_true] at h; exact h.2
theorem ok_no {ps : List Pile} {lots : List Int} (h : ok ps lots = false) : lval lots = false ∨ (lval lots = true ∧ fits ps lots.length = false) := by
  simp only [ok, Bool.and_eq_false_iff] at h
  cases hl : lval lots
  · exact .inl rfl
  · rw [hl] at h
    exact .inr ⟨rfl, h.resolve_left (by simp)⟩
/-- nobody has left -/
def fresh (n : Nat) : List Bool := List.replicate n false
theorem fresh_len (n : Nat) : (fresh n).length = n := by simp [fresh]
/-- the winner, or -1 -/
def pwin (ps : List Pile) (lots : List Int) : Int := if ok ps lots then best (firsts ps (fresh lots.length)) lots else -1
theorem pwin_yes {ps : List Pile} {lots : List Int} (h : ok ps lots = true) : pwin ps lots = best (firsts ps (fresh lots.length)) lots := by simp [pwin, h]
theorem pwin_no {ps : List Pile} {lots : List Int} (h : ok ps lots = false) : pwin ps lots = -1 := by simp [pwin, h]
/-- the margin, or -1 -/
def pmar (ps : List Pile) (lots : List Int) : Int := if ok ps lots then margin (firsts ps (fresh lots.length)) lots else -1
theorem pmar_yes {ps : List Pile} {lots : List Int} (h : ok ps lots = true) : pmar ps lots = margin (firsts ps (fresh lots.length)) lots := by simp [pmar, h]
theorem pmar_no {ps : List Pile} {lots : List Int} (h : ok ps lots = false) : pmar ps lots = -1 := by simp [pmar, h]
theorem best_range {counts lots : List Int} (h : lval lots = true) : 0 ≤ best counts lots ∧ best counts lots < lots.length := lval_range h _ (best_mem counts lots (by have := lval_n h; omega))
end Bp





end Go.Proofs.Ytgcihnhljeahjaa
