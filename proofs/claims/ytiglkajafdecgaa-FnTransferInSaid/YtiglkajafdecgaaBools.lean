/-
  Slices of truths of the call's own: made, written, appended to, copied.
-/
import Derived.Test.YtiglkajafdecgaaCounts
namespace Go.Proofs.Ytiglkajafdecgaa
set_option linter.unusedVariables false
open Go.RowKit

theorem bool_info : (Try.prog.info? 4).map (fun i => (i.zero, i.size, i.bytes)) = some (some (.bool false), 1, 1) := by kernel_rfl
/-- v is a slice of n truths of the call's own, from block base on -/
def OwnB (w : World) (base : Nat) (v : Value) (n : Nat) (zs : List Bool) : Prop := w.ownsRow base 4 1 v n (zs.map Value.bool)
theorem OwnB.row {w : World} {base : Nat} {v : Value} {n : Nat} {zs : List Bool} (h : OwnB w base v n zs) : w.ownsRow base 4 1 v n (zs.map Value.bool) := h
theorem OwnB.len {w : World} {base : Nat} {v : Value} {n : Nat} {zs : List Bool} (h : OwnB w base v n zs) : zs.length = n := by have := h.1; simpa using this
theorem OwnB.bools {w : World} {base : Nat} {A : Option Addr} {n c : Nat} {zs : List Bool} (h : OwnB w base (.slice A n c) n zs) : Bools w w.heap.size A n zs := by
  refine ⟨h.len, fun hn => ?_⟩
  rcases h.2 with ⟨hv, h0⟩ | ⟨g, cap, cur, hv, _, hh, _⟩
  · omega
  · have hlt := (h.lt g (by rw [hv]; rfl)).2
    injection hv with hA hn' hc'
    subst hA
    refine ⟨g, 0, rfl, hlt, fun k hk => ?_⟩
    have := h.cells (g := g) rfl k (.bool (zs.getD k false)) (by
      have hk' : k < zs.length := by rw [h.len]; exact hk
      simp [List.getD, hk'])
    rw [add_zero_off] at this
    simpa using this
theorem OwnB.nil (w : World) (base : Nat) : OwnB w base (.slice none 0 0) 0 [] := World.ownsRow_nil w base _ _
theorem OwnB.base {w : World} {base base' : Nat} {v : Value} {n : Nat} {zs : List Bool} (h : OwnB w base v n zs) (hb : base' ≤ base) : OwnB w base' v n zs := own_base h hb
theorem OwnB.keep {w w' : World} {base : Nat} {v : Value} {n : Nat} {zs : List Bool} (h : OwnB w base v n zs) (hb : Below w.heap.size w w') : OwnB w' base v n zs := own_keep h hb
theorem OwnB.only {w w' : World} {base g : Nat} {v : Value} {n : Nat} {zs : List Bool} (h : OwnB w base v n zs) (hg : w.grownBy w' (some g)) (hlt : g < base) : OwnB w' base v n zs :=
  h.row.kept hg (by
    rcases h.2 with ⟨rfl, _⟩ | ⟨g', cap, cur, rfl, hb, _⟩
    · exact .inl rfl
    · exact .inr (by simp [Value.ownBlock]; omega))
theorem ownB_set {w : World} {g n c : Nat} {zs : List Bool} {base : Nat} (h : OwnB w base (.slice (some ⟨g, 0, none⟩) n c) n zs) (j : Nat) (z : Bool) :
    OwnB (w.setCell ⟨g, j, none⟩ (.bool z)) base (.slice (some ⟨g, 0, none⟩) n c) n (zs.set j z) ∧ w.grownBy (w.setCell ⟨g, j, none⟩ (.bool z)) (some g) := by
  have := h.row.stored j (.bool z)
  refine ⟨?_, this.2⟩
  unfold OwnB
  rw [List.map_set]
  exact this.1
theorem ownB_cell {w : World} {g n c : Nat} {zs : List Bool} {base : Nat} (h : OwnB w base (.slice (some ⟨g, 0, none⟩) n c) n zs) (j : Nat) (hj : j < n) :
    w.cell? ⟨g, j, none⟩ = some (.bool (zs.getD j false)) ∧ w.frozen? ⟨g, j, none⟩ = false := by
  refine ⟨?_, h.row.frozenAt _⟩
  rw [h.row.cellAt j (by omega)]
  have : j < zs.length := by rw [h.len]; exact hj
  simp [List.getD, this]
theorem madeB_own {w w1 : World} {n : Nat} (h : w1.ownsRow w.heap.size 4 1 (.slice (some ⟨w.heap.size, 0, none⟩) n n) n (madeCells (Value.bool false).cells (n * 1)).toList) : OwnB w1 w.heap.size (.slice (some ⟨w.heap.size, 0, none⟩) n n) n (List.replicate n false) := by
  unfold OwnB
  rw [List.map_replicate]
  have e : (madeCells (Value.bool false).cells (n * 1)).toList = List.replicate n (Value.bool false) := by
    rw [Nat.mul_one]
    exact toList_madeCells_one _ _
  rw [e] at h
  exact h
/-- what a call leaves that makes truths -/
def MadeB (n : Nat) (zs : List Bool) (w : World) (e : Ending) (w' : World) : Prop :=
  ∃ (A : Option Addr) (c : Nat), e = .returned (.slice A n c) ∧ n ≤ c ∧ OwnB w' w.heap.size (.slice A n c) n zs ∧ Below w.heap.size w w'
/-- what a call leaves that makes numbers -/
def MadeI (n : Nat) (zs : List Int) (w : World) (e : Ending) (w' : World) : Prop :=
  ∃ (A : Option Addr) (c : Nat), e = .returned (.slice A n c) ∧ n ≤ c ∧ Own w' w.heap.size (.slice A n c) n zs ∧ Below w.heap.size w w'
end Go.Proofs.Ytiglkajafdecgaa
