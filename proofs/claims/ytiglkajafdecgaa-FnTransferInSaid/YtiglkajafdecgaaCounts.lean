/-
  The walks of the counts by places in the program: placesCounted at each of its three functions of points; PlaceCounts, DepthCounts, LastCounts.
-/
import Derived.Test.YtiglkajafdecgaaPiles
import Derived.Test.YtiglkajafdecgaaCountPlain
import Derived.StillTailTactics
namespace Go.Proofs.Ytiglkajafdecgaa
set_option linter.unusedVariables false
open Go.RowKit

/-- what a count leaves: a row of the call's own -/
def CountedI (n : Nat) (zs : List Int) (w : World) (e : Ending) (w' : World) : Prop :=
  ∃ g, e = .returned (.slice (some ⟨g, 0, none⟩) n n) ∧ w.heap.size ≤ g ∧ Own w' g (.slice (some ⟨g, 0, none⟩) n n) n zs ∧ Below w.heap.size w w'
theorem Own.only {w w' : World} {base g : Nat} {v : Value} {n : Nat} {zs : List Int} (h : Own w base v n zs) (hg : w.grownBy w' (some g)) (hlt : g < base) : Own w' base v n zs :=
  h.row.kept hg (by
    rcases h.2 with ⟨rfl, _⟩ | ⟨g', cap, cur, rfl, hb, _⟩
    · exact .inl rfl
    · exact .inr (by simp [Value.ownBlock]; omega))
theorem own_only_set {w : World} {g n c : Nat} {zs : List Int} {base : Nat} (h : Own w base (.slice (some ⟨g, 0, none⟩) n c) n zs) (j : Nat) (z : Int) :
    Own (w.setCell ⟨g, j, none⟩ (.int .i64 z)) base (.slice (some ⟨g, 0, none⟩) n c) n (zs.set j z) ∧ w.grownBy (w.setCell ⟨g, j, none⟩ (.int .i64 z)) (some g) := by
  have := h.row.stored j (.int .i64 z)
  refine ⟨?_, this.2⟩
  unfold Own
  rw [List.map_set]
  exact this.1
theorem own_cell {w : World} {g n c : Nat} {zs : List Int} {base : Nat} (h : Own w base (.slice (some ⟨g, 0, none⟩) n c) n zs) (j : Nat) (hj : j < n) :
    w.cell? ⟨g, j, none⟩ = some (.int .i64 (zs.getD j 0)) ∧ w.frozen? ⟨g, j, none⟩ = false := by
  refine ⟨?_, h.row.frozenAt _⟩
  rw [h.row.cellAt j (by omega)]
  have : j < zs.length := by rw [h.len]; exact hj
  simp [List.getD, this]
theorem made_own {w w1 : World} {n : Nat} (h : w1.ownsRow w.heap.size 3 1 (.slice (some ⟨w.heap.size, 0, none⟩) n n) n (madeCells (Value.int .i64 0).cells (n * 1)).toList) : Own w1 w.heap.size (.slice (some ⟨w.heap.size, 0, none⟩) n n) n (List.replicate n 0) := by
  unfold Own
  rw [List.map_replicate]
  have e : (madeCells (Value.int .i64 0).cells (n * 1)).toList = List.replicate n (Value.int .i64 0) := by
    rw [Nat.mul_one]
    exact toList_madeCells_one _ _
  rw [e] at h
  exact h




end Go.Proofs.Ytiglkajafdecgaa
