/-
  What functions of steps leave.
-/
import Derived.Test.YtiglkajafdecgaaTransMem
namespace Go.Proofs.Ytiglkajafdecgaa
set_option linter.unusedVariables false
open Go.RowKit

def stepN : Value → Nat
  | .slice _ n _ => n
  | _ => 0
def sres (ok : Bool) (ss : List Bp.Stp) : List Bp.Stp := if ok then ss else []
theorem sres_yes {ok : Bool} (h : ok = true) (ss : List Bp.Stp) : sres ok ss = ss := by simp [sres, h]
theorem sres_no {ok : Bool} (h : ok = false) (ss : List Bp.Stp) : sres ok ss = [] := by simp [sres, h]
def StepsRes (ok : Bool) (ss : List Bp.Stp) (w : World) (e : Ending) (w' : World) : Prop :=
  ∃ (A : Option Addr) (n c : Nat), e = .returned (.tuple #[.slice A n c, .bool ok]) ∧ n ≤ c ∧ n ≤ 5 ∧ OwnS w' w.heap.size [] (.slice A n c) n (sres ok ss) ∧ Below w.heap.size w w'
theorem stepsRes_none {ss : List Bp.Stp} {w w' : World} {e : Ending} (he : e = .returned (.tuple #[.slice none 0 0, .bool false])) (hb : Below w.heap.size w w') : StepsRes false ss w e w' :=
  ⟨none, 0, 0, he, Nat.le_refl _, by omega, by rw [sres_no rfl]; exact OwnS.nil _ _ _, hb⟩
theorem st_lit {w : World} {base : Nat} (h : base ≤ w.heap.size) : OwnS (w.alloc (.cells #[] 47)) base [] (.slice (some ⟨w.heap.size, 0, none⟩) 0 0) 0 [] :=
  ⟨[], rfl, World.ownsRow_lit w #[] 0 h (by decide) rfl, Subs.nil .., fun y hy => by cases hy⟩
theorem three_new (w : World) (x y z : Value) (t : TypeId) : ∀ j u, [x, y, z][j]? = some u → (w.alloc (.cells #[x, y, z] t)).cell? ((⟨w.heap.size, 0, none⟩ : Addr).add j) = some u := by
  intro j u hj
  match j, hj with
  | 0, hj =>
    simp at hj
    subst hj
    simp [Addr.add]
  | 1, hj =>
    simp at hj
    subst hj
    simp [Addr.add]
  | 2, hj =>
    simp at hj
    subst hj
    simp [Addr.add]
end Go.Proofs.Ytiglkajafdecgaa
