/-
  Marks and copies, said of memory of the call's own: which blocks turn.
-/
import Derived.Test.YtdcfpobjiofnmaaLawKit
import Derived.Test.YtdcfpobjiofnmaaCountRes
namespace Go.Proofs.Ytdcfpobjiofnmaa
set_option linter.unusedVariables false
open Go.RowKit

/-- of what lay in w, only a block from lo on and before hi has turned -/
def Within (lo hi : Nat) (w w' : World) : Prop := ∃ row, w.grownBy w' row ∧ ∀ g, row = some g → lo ≤ g ∧ g < hi
theorem Within.below {lo hi : Nat} {w w' : World} (h : Within lo hi w w') (hl : lo ≤ w.heap.size) : Below lo w w' := by
  obtain ⟨row, hg, hr⟩ := h
  refine ⟨hg.os, hg.tape, hg.output, hg.size, fun i hi => hg.block i (by omega) ?_⟩
  cases row with
  | none => simp
  | some g => have := hr g rfl; simp; omega
theorem own_within {lo hi base : Nat} {w w' : World} {e : TypeId} {sz : Nat} {v : Value} {n : Nat} {xs : List Value} (h : w.ownsRow base e sz v n xs) (hi' : hi ≤ base) (hw : Within lo hi w w') : w'.ownsRow base e sz v n xs := by
  obtain ⟨row, hg, hr⟩ := hw
  refine h.kept hg ?_
  rcases h.2 with ⟨rfl, _⟩ | ⟨g, cap, cur, rfl, hb, _⟩
  · exact .inl rfl
  · refine .inr ?_
    cases row with
    | none => simp [Value.ownBlock]
    | some g' => have := hr g' rfl; simp [Value.ownBlock]; omega

theorem Own.within {lo hi base : Nat} {w w' : World} {v : Value} {n : Nat} {zs : List Int} (h : Own w base v n zs) (hi' : hi ≤ base) (hw : Within lo hi w w') : Own w' base v n zs := own_within h hi' hw
theorem OwnP.within {lo hi base : Nat} {w w' : World} {v : Value} {n : Nat} {ps : List (ByteArray × Int)} (h : OwnP w base v n ps) (hi' : hi ≤ base) (hw : Within lo hi w w') : OwnP w' base v n ps := own_within h hi' hw
theorem PilesR.mono {w : World} {B B' n : Nat} {A : Option Addr} {ps : List (ByteArray × Int)} (h : PilesR w B A n ps) (hB : B ≤ B') : PilesR w B' A n ps := ⟨h.1, fun hn => by
  obtain ⟨g, o, e, hl, hc⟩ := h.2 hn
  exact ⟨g, o, e, by omega, hc⟩⟩

theorem own_lt {w : World} {base : Nat} {e : TypeId} {sz : Nat} {A : Option Addr} {n m c : Nat} {xs : List Value} (h : w.ownsRow base e sz (.slice A n c) m xs) : ∀ g, A = some ⟨g, 0, none⟩ → g < w.heap.size := fun g hg => (h.lt g (by rw [hg]; rfl)).2


end Go.Proofs.Ytdcfpobjiofnmaa
