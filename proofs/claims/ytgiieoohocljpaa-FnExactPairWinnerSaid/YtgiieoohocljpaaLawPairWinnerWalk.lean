/-
  The walk of FnExactPairWinner.
-/
import Derived.Test.YtgiieoohocljpaaLawCopy
import Derived.Test.YtgiieoohocljpaaPairWin
namespace Go.Proofs.Ytgiieoohocljpaa
set_option linter.unusedVariables false
open Go.RowKit

set_option maxRecDepth 100000 in
set_option maxHeartbeats 400000 in
theorem lawPairWinner_any (A0 : Option Addr) (n0 c0 : Nat) (m0 : List (ByteArray × Int)) (q1 : Int) (w : World) (h0 : PilesR w w.heap.size A0 n0 m0) (hn0 : n0 ≤ 9223372036854775807) (hc0 : n0 ≤ c0) (hss0 : ∀ p ∈ m0, p.1.size ≤ 9223372036854775807) :
    Calls Try.prog 4 #[.slice A0 n0 c0, .int .i64 q1] w fun e w' => e = .returned (.bool true) ∧ Below w.heap.size w w' := by
  go_enter Try.func4, Try.ntmps4
  go_wp2_with fail
  refine (szPileS_any A0 n0 c0 m0 1048576 _ ((h0.below (Below.refl _ _)).mono (by omega)) hn0 hss0 (by omega) (by omega)).mono ?_
  rintro e w1 ⟨r0, rfl, hr0, -, hb1⟩
  have hz1 := hb1.size
  have hB1 : Below w.heap.size w w1 := (Below.refl _ _).trans (hb1.mono (by omega))
  rcases (show r0 < 0 ∨ 0 ≤ r0 by omega) with hg0 | hg0
  · go_wp2_with fail
    go_ret
    exact ⟨rfl, hB1⟩
  obtain ⟨hn', hs'⟩ := hr0 hg0
  have hk0 : n0 ≤ 1048576 := by omega
  have hs0 := Lib.hid (fun p hp => by have := hs' p hp; omega : ∀ p ∈ m0, p.1.size ≤ 1048576)
  clear hr0 hs' hss0
  go_wp2_with fail
  refine (toPileS_any A0 n0 c0 m0 _ ((h0.below hB1).mono (by omega)) hk0).mono ?_
  rintro e w2 ⟨Ay0, cy0, rfl, hcy0, y0, hb2⟩
  have hz2 := hb2.size
  have hB2 : Below w.heap.size w w2 := hB1.trans (hb2.mono (by omega))
  go_wp2_with fail
  refine (sPairWinner_any Ay0 n0 cy0 q1 m0 _ (y0.piles.fine hs0.out) hk0).mono ?_
  rintro e w3 ⟨rfl, hb3⟩
  have hz3 := hb3.size
  have hB3 : Below w.heap.size w w3 := hB2.trans (hb3.mono (by omega))
  have y0_3 := y0.keep hb3
  go_wp2_with fail
  refine (toPileS_any A0 n0 c0 m0 _ ((h0.below hB3).mono (by omega)) hk0).mono ?_
  rintro e w4 ⟨Ax0, cx0, rfl, hcx0, x0, hb4⟩
  have hz4 := hb4.size
  have hB4 : Below w.heap.size w w4 := hB3.trans (hb4.mono (by omega))
  have hlt0 := own_lt x0
  go_wp2_with fail
  refine (iPairWinner_any Ax0 n0 cx0 q1 m0 _ (x0.piles.fine hs0.out) hk0 hcx0).mono ?_
  rintro e w5 ⟨rfl, hb5⟩
  have hz5 := hb5.size
  have hB5 : Below w.heap.size w w5 := hB4.trans (hb5.mono (by omega))
  have x0_5 := x0.keep hb5
  go_wp2_with fail
  refine (toPileS_any A0 n0 c0 m0 _ ((h0.below hB5).mono (by omega)) hk0).mono ?_
  rintro e w6 ⟨Az0, cz0, rfl, hcz0, z0, hb6⟩
  have hz6 := hb6.size
  have hB6 : Below w.heap.size w w6 := hB5.trans (hb6.mono (by omega))
  have x0_6 := x0_5.keep hb6
  go_wp2_with fail
  refine (eqPileS_any Ax0 Az0 n0 cx0 n0 cz0 _ _ _ x0_6.piles z0.piles (by omega)).mono ?_
  rintro e w7 ⟨rfl, hb7⟩
  have hz7 := hb7.size
  have hB7 : Below w.heap.size w w7 := hB6.trans (hb7.mono (by omega))
  have x0_7 := x0_6.keep hb7
  rw [decide_eq_true rfl]
  go_wp2_with fail
  go_ret
  exact ⟨rfl, hB7⟩
end Go.Proofs.Ytgiieoohocljpaa
