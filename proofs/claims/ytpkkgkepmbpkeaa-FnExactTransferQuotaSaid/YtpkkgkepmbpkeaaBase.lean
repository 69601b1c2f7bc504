/-
  Small words for worlds and slices: what reads as a list, what stays as it was.
-/
import Derived.Test.YtpkkgkepmbpkeaaRows
import Derived.WalkKit
import Derived.WalkSpells
import Derived.WalkLawsBesides
import Derived.Lib.Hide
import Derived.Maps.AppendAt
import Derived.Deep.Draws
namespace Go.Proofs.Ytpkkgkepmbpkeaa
open Go.RowKit

theorem ret_int {k : IntKind} {a b : Int} (h : a = b) : Ending.returned (.int k a) = .returned (.int k b) := by rw [h]
theorem ret_bool {a b : Bool} (h : a = b) : Ending.returned (.bool a) = .returned (.bool b) := by rw [h]

/-- all that lay below the heap's size when a call began reads as before -/
theorem bcell {W w1 : World} (hb : Below W.heap.size W w1) : (∀ b o, b < W.heap.size → w1.cell? ⟨b, o, none⟩ = W.cell? ⟨b, o, none⟩) ∧ (∀ b o, b < W.heap.size → w1.frozen? ⟨b, o, none⟩ = W.frozen? ⟨b, o, none⟩) :=
  ⟨fun b o h => hb.cell (p := ⟨b, o, none⟩) h, fun b o h => hb.frozen (p := ⟨b, o, none⟩) h⟩

/-- cells that hold known values and may be written -/
def Bx (w : World) : List (Addr × Value) → Prop
  | [] => True
  | (a, v) :: r => (w.cell? a = some v ∧ w.frozen? a = false) ∧ Bx w r
theorem lt_of_cell {w : World} {a : Addr} {v : Value} (h : w.cell? a = some v) : a.block < w.heap.size := by
  rcases Nat.lt_or_ge a.block w.heap.size with hlt | hge
  · exact hlt
  · simp [World.cell?, Array.getElem?_eq_none hge] at h
theorem Bx.later {w w' : World} (hb : Below w.heap.size w w') : ∀ {L : List (Addr × Value)}, Bx w L → Bx w' L
  | [], _ => trivial
  | (_, _) :: _, ⟨⟨h1, h2⟩, h3⟩ => ⟨⟨(hb.cell (lt_of_cell h1)).trans h1, (hb.frozen (lt_of_cell h1)).trans h2⟩, Bx.later hb h3⟩
theorem Bx.alloc {w : World} (o : Obj) : ∀ {L : List (Addr × Value)}, Bx w L → Bx (w.alloc o) L
  | [], _ => trivial
  | (_, _) :: _, ⟨⟨h1, h2⟩, h3⟩ => ⟨⟨(World.cell?_alloc_lt w o _ (lt_of_cell h1)).trans h1, (((Below.refl w.heap.size w).alloc (Nat.le_refl _) o).frozen (lt_of_cell h1)).trans h2⟩, Bx.alloc o h3⟩
end Go.Proofs.Ytpkkgkepmbpkeaa
