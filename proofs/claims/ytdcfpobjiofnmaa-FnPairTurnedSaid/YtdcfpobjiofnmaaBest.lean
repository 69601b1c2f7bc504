/-
  The walks of PairBest, of the program and of the reference.
-/
import Derived.Test.YtdcfpobjiofnmaaPathsS
import Derived.Maps.AppendAt
import Derived.Test.YtdcfpobjiofnmaaPicksPlain
import Derived.Test.YtdcfpobjiofnmaaCountRes
namespace Go.Proofs.Ytdcfpobjiofnmaa
set_option linter.unusedVariables false
open Go.RowKit

theorem TabV.row_of {w : World} {B n : Nat} {A : Option Addr} {g o : Nat} {f : Nat → Nat → Int} (h : TabV w B A n (Bp.tabs n f)) (hA : A = some ⟨g, o, none⟩) {x : Nat} (hx : x < n) :
    ∃ g' o' c, w.cell? ⟨g, o + x, none⟩ = some (.slice (some ⟨g', o', none⟩) n c) ∧ ∀ y, y < n → w.cell? ⟨g', o' + y, none⟩ = some (.int .i64 (f x y)) := by
  have hm : ((Bp.tabs n f).getD x []).length = n := by rw [Bp.tabs_at _ _ hx, Bp.tab_len]
  obtain ⟨g', o', c, h1, _, _, _⟩ := h.get hA hx hm hx
  refine ⟨g', o', c, h1, fun y hy => ?_⟩
  obtain ⟨g2, o2, c2, h2, h3, _, _⟩ := h.get hA hx hm hy
  rw [h1] at h2
  injection h2 with h2
  injection h2 with h2 _ _
  injection h2 with h2
  injection h2 with e1 e2
  subst e1; subst e2
  rw [Bp.tabs_cell _ _ hx hy] at h3
  exact h3
/-- from lo on, below hi, nothing has changed -/
def Far (lo hi : Nat) (w w' : World) : Prop := w.heap.size ≤ w'.heap.size ∧ ∀ k, lo ≤ k → k < hi → w'.heap[k]? = w.heap[k]?
theorem Far.refl (lo hi : Nat) (w : World) : Far lo hi w w := ⟨Nat.le_refl _, fun _ _ _ => rfl⟩
theorem Far.drewN {lo hi : Nat} {w w' : World} (h : Far lo hi w w') (k : Nat) : Far lo hi w (w'.drewN k) := h
theorem Far.drawn {lo hi : Nat} {w a b : World} (h : Far lo hi w a) (hd : Drawn a b) : Far lo hi w b := by
  obtain ⟨k, rfl⟩ := hd
  exact h.drewN k
theorem Far.alloc {lo hi : Nat} {w w' : World} (h : Far lo hi w w') (hh : hi ≤ w'.heap.size) (o : Obj) : Far lo hi w (w'.alloc o) :=
  ⟨Nat.le_trans h.1 (by simp), fun k h1 h2 => (Below.heap_alloc w' o k (by omega)).trans (h.2 k h1 h2)⟩
theorem Far.grown {lo hi : Nat} {w a b : World} {row : Option Nat} (h : Far lo hi w a) (hg : a.grownBy b row) (hh : hi ≤ a.heap.size) (hr : ∀ x, row = some x → x < lo ∨ hi ≤ x) : Far lo hi w b :=
  ⟨Nat.le_trans h.1 hg.size, fun k h1 h2 => (hg.block k (by omega) (by
    intro e
    have := hr k e.symm
    omega)).trans (h.2 k h1 h2)⟩
theorem own_farlo {w w' : World} {lo : Nat} {e : TypeId} {sz : Nat} {v : Value} {n : Nat} {xs : List Value} (h : w.ownsRow lo e sz v n xs) (hf : Far lo w.heap.size w w') : w'.ownsRow lo e sz v n xs := by
  refine ⟨h.1, ?_⟩
  rcases h.2 with hn | ⟨g, cap, cur, rfl, hb, hgg, rest⟩
  · exact .inl hn
  · refine .inr ⟨g, cap, cur, rfl, hb, ?_, rest⟩
    rw [hf.2 g hb (Array.getElem?_eq_some_iff.1 hgg).1]
    exact hgg
theorem OwnTb.far {w w' : World} {lo : Nat} {v : Value} {n : Nat} {rows : List (List Int)} (h : OwnTb w lo v n rows) (hf : Far lo w.heap.size w w') : OwnTb w' lo v n rows := by
  obtain ⟨vs, h1, h2, h3⟩ := h
  exact ⟨vs, h1, own_farlo h2 hf, ⟨h3.len, fun i hi => ⟨own_farlo (h3.sub i hi).1 hf, (h3.sub i hi).2⟩, h3.own, h3.apart⟩⟩
/-- what a function of candidates leaves -/
def ListRes (ok : Bool) (zs : List Int) (w : World) (e : Ending) (w' : World) : Prop :=
  ∃ (A : Option Addr) (n c : Nat), e = .returned (.slice A n c) ∧ n ≤ c ∧ n ≤ 5 ∧ Own w' w.heap.size (.slice A n c) n (cres ok zs) ∧ Below w.heap.size w w'
theorem int_lit {w0 w : World} (h : w0.heap.size ≤ w.heap.size) : Own (w.alloc (.cells #[] 3)) w0.heap.size (.slice (some ⟨w.heap.size, 0, none⟩) 0 0) 0 [] := own_base (World.ownsRow_lit w #[] 0 (Nat.le_refl _) (by decide) rfl) h

end Go.Proofs.Ytdcfpobjiofnmaa
