/-
  What the draws of piles and a number of candidates give.
-/
import Derived.Test.YtdcfpobjiofnmaaDrawPiles
import Derived.Test.YtdcfpobjiofnmaaOpen
namespace Go.Proofs.Ytdcfpobjiofnmaa
set_option linter.unusedVariables false
open Go.RowKit

/-- drawn piles, and a number -/
def DrawnPairs (w : World) (e : Ending) (w' : World) : Prop :=
  ∃ (g n c : Nat) (m : Int) (ps : List (ByteArray × Int)), e = .returned (.tuple #[.slice (some ⟨g, 0, none⟩) n c, .int .i64 m]) ∧ n ≤ c ∧ n ≤ 100 ∧ 0 ≤ m ∧ m ≤ 6 ∧
    Piles w' w'.heap.size (some ⟨g, 0, none⟩) n ps ∧ Below w.heap.size w w'
def DrawnPairsR (w : World) (g b : Nat) (e : Ending) (w' : World) : Prop :=
  ∃ (gl n c : Nat) (m : Int) (ps : List (ByteArray × Int)), e = .returned (.tuple #[.slice (some ⟨gl, 0, none⟩) n c, .int .i64 m]) ∧ n ≤ c ∧ n ≤ 100 ∧ 0 ≤ m ∧ m ≤ 6 ∧
    Piles w' w'.heap.size (some ⟨gl, 0, none⟩) n ps ∧ w.grownBy w' (some g)
set_option maxRecDepth 100000 in
set_option maxHeartbeats 400000 in
theorem l91Pairs_some (g : Nat) (w : World) (hr : RdLe w g 0) (hg : g < w.heap.size) :
    Calls Try.prog 27 #[.pointer (some ⟨g, 0, none⟩)] w (DrawnPairsR w g 0) := by
  go_enter Try.func27, Try.ntmps27
  go_wp2_with fail
  refine (pick_b g 0 4 _ hr (by omega)).mono ?_
  rintro e w2 ⟨q, rfl, hq0, hq1, -, hg2, hr2⟩
  have hq := hq1 (by omega)
  have hs2 := hg2.size
  clear hq1
  go_wp2_with fail
  refine (pick_b g (0 + 1) 12 _ hr2 (by omega)).mono ?_
  rintro e w3 ⟨x, rfl, hx0, -, -, hg3, hr3⟩
  have hG3 := only_trans hg2 hg3
  clear hg2 hg3 hr2 hr
  by_cases hx : x = 0
  · subst hx
    go_wp2_with fail
    refine (pick_b g (0 + 1 + 1) 7 _ hr3 (by omega)).mono ?_
    rintro e w4 ⟨y, rfl, hy0, hy1, -, hg4, hr4⟩
    have hy := hy1 (by omega)
    have hG4 := only_trans hG3 hg4
    clear hg4 hG3 hr3 hy1
    go_wp2_with fail
    all_goals
      refine (l91Piles_some g (0 + 1 + 1 + 1) _ _ hr4 (by omega) (by omega) (by omega)).mono ?_
      rintro e w5 ⟨gp, n3, c3, ps, rfl, hc3, hn3, hsz, own3, hg5, hr5⟩
      go_wp2_with fail
      go_ret2
      exact ⟨gp, n3, c3, y, ps, rfl, hc3, hn3, by omega, by omega, own3.piles.fine hsz, only_trans hG4 hg5⟩
  · have dx : (x == 0) = false := by simpa using hx
    go_wp2_with fail
    all_goals
      refine (l91Piles_some g (0 + 1 + 1) _ _ hr3 (by omega) (by omega) (by omega)).mono ?_
      rintro e w5 ⟨gp, n3, c3, ps, rfl, hc3, hn3, hsz, own3, hg5, hr5⟩
      go_wp2_with fail
      go_ret2
      exact ⟨gp, n3, c3, _, ps, rfl, hc3, hn3, by omega, by omega, own3.piles.fine hsz, only_trans hG3 hg5⟩
set_option maxRecDepth 100000 in
set_option maxHeartbeats 400000 in
theorem drawPairWinner_some (A : Option Addr) (n c : Nat) (w : World) (h : Bytes w w.heap.size A n) (hn : n ≤ 9223372036854775807) (hc : n ≤ c) :
    Calls Try.prog 9 #[.slice A n c] w (DrawnPairs w) := by
  go_enter Try.func9, Try.ntmps9
  go_wp2_with fail
  refine (l6Open_any A n c _ h hn hc).mono ?_
  rintro e w1 ⟨g, rfl, hg, hgl, hr1, hb1⟩
  go_wp2_with fail
  refine (l91Pairs_some g _ ⟨0, Nat.le_refl _, hr1⟩ (by omega)).mono ?_
  rintro e w2 ⟨g1, n1, c1, m, ps, rfl, hc1, hn1, hm0, hm1, hps, hg2⟩
  go_wp2_with fail
  go_ret2
  exact ⟨g1, n1, c1, m, ps, rfl, hc1, hn1, hm0, hm1, hps, drawn_below hb1 hg2 hg⟩
end Go.Proofs.Ytdcfpobjiofnmaa
