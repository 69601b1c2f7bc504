/-
  The draw of one fraction.
-/
import Derived.Test.YtleceoplfboefaaDoorDrawFrac
namespace Go.Proofs.YtleceoplfboefaaDoor
set_option linter.unusedVariables false
open Go.RowKit

/-- what a draw of one fraction leaves -/
def OneFrac (w : World) (e : Ending) (w' : World) : Prop := ∃ a d : Int, e = .returned (.agg #[.int .i64 a, .int .i64 d]) ∧ Below w.heap.size w w'
set_option maxRecDepth 100000 in
set_option maxHeartbeats 400000 in
theorem drawFracText_any (A : Option Addr) (n c : Nat) (w : World) (h : Bytes w w.heap.size A n) (hn : n ≤ 9223372036854775807) (hc : n ≤ c) :
    Calls Tryd.prog 8 #[.slice A n c] w (OneFrac w) := by
  have hal : Below w.heap.size w (w.alloc (.cells #[.int .i64 0, .int .i64 0] 25)) := (Below.refl _ _).alloc (Nat.le_refl _) _
  have h2 : Bytes (w.alloc (.cells #[.int .i64 0, .int .i64 0] 25)) (w.alloc (.cells #[.int .i64 0, .int .i64 0] 25)).heap.size A n := fun hp => by
    obtain ⟨b, o, e, hl, hx⟩ := (h.below hal) hp
    exact ⟨b, o, e, Nat.lt_of_lt_of_le hl hal.size, hx⟩
  go_enter Tryd.func8, Tryd.ntmps8
  go_wp2_with fail
  refine (l6Open_any A n c _ h2 hn hc).mono ?_
  rintro e w1 ⟨g, rfl, hg, hgl, hr1, hb1⟩
  have F1 : Bx w1 [(⟨w.heap.size, 0, none⟩, .int .i64 0), (⟨w.heap.size, 1, none⟩, .int .i64 0)] := Bx.later hb1 (by simp [Bx, go_sem])
  have hz1 := hb1.size
  simp at hz1 hg
  have hB1 := hal.trans (hb1.mono (by simp))
  go_wp2_with fail
  refine (l93Frac_any g 0 _ ⟨0, Nat.le_refl _, hr1⟩ (by omega)).mono ?_
  rintro e w2 ⟨a, b, rfl, hg2, hr2⟩
  have F2 := Bx.only hg2 (by simp; omega) F1
  have G2 := F2
  simp only [Bx, and_true] at G2
  have hB2 : Below w.heap.size w w2 := hB1.trans (below_only hg2 (by omega) (by omega))
  have hz2 := hg2.size
  have n4 : w.heap.size < w2.heap.size := by omega
  clear F1 F2
  go_wp2_with fail
  exact bodyPost_ret (v := .agg #[.int .i64 a, .int .i64 b]) (by simp [results, Tryd.results8, go_sem, G2]) rfl ⟨a, b, rfl, (hB2.setCell (Nat.le_refl _) _).setCell (Nat.le_refl _) _⟩
end Go.Proofs.YtleceoplfboefaaDoor
