/-
  The walks of PlaceCounts, DepthCounts, LastCounts: the program's and the reference's.
-/
import Derived.Test.YtiglkajafdecgaaCountSpec
namespace Go.Proofs.Ytiglkajafdecgaa
set_option linter.unusedVariables false
open Go.RowKit

/-- the counts where there are any -/
def cres (ok : Bool) (zs : List Int) : List Int := if ok then zs else []
theorem cres_yes {ok : Bool} (h : ok = true) (zs : List Int) : cres ok zs = zs := by simp [cres, h]
theorem cres_no {ok : Bool} (h : ok = false) (zs : List Int) : cres ok zs = [] := by simp [cres, h]
/-- what a function of counts leaves: a row of the call's own, and whether there is one -/
def CountRes (ok : Bool) (zs : List Int) (w : World) (e : Ending) (w' : World) : Prop :=
  ∃ (A : Option Addr) (n c : Nat), e = .returned (.tuple #[.slice A n c, .bool ok]) ∧ n ≤ c ∧ n ≤ 5 ∧ Own w' w.heap.size (.slice A n c) n (cres ok zs) ∧ Below w.heap.size w w'
theorem res_empty {w : World} {base : Nat} (h : base ≤ w.heap.size) : Own (w.alloc (.cells #[] 3)) base (.slice (some ⟨w.heap.size, 0, none⟩) 0 0) 0 [] := World.ownsRow_lit w #[] 0 h (by decide) rfl










end Go.Proofs.Ytiglkajafdecgaa
