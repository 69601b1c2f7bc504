/-
  The walk of FnExactRunoffWinner.
-/
import Derived.Test.YtlbhbjhglkhbgaaLawCopy
import Derived.Test.YtlbhbjhglkhbgaaRunoffWinS
namespace Go.Proofs.Ytlbhbjhglkhbgaa
set_option linter.unusedVariables false
open Go.RowKit

set_option maxRecDepth 100000 in
set_option maxHeartbeats 400000 in
theorem lawRunoffWinner_any (A0 : Option Addr) (n0 c0 : Nat) (m0 : List (ByteArray × Int)) (A1 : Option Addr) (n1 c1 : Nat) (m1 : List Int) (w : World) (h0 : PilesR w w.heap.size A0 n0 m0) (hn0 : n0 ≤ 9223372036854775807) (hc0 : n0 ≤ c0) (hss0 : ∀ p ∈ m0, p.1.size ≤ 9223372036854775807) (h1 : Ints w w.heap.size A1 n1 m1) (hn1 : n1 ≤ 9223372036854775807) (hc1 : n1 ≤ c1) :
    Calls Try.prog 6 #[.slice A0 n0 c0, .slice A1 n1 c1] w fun e w' => e = .returned (.bool true) ∧ Below w.heap.size w w' := by
  by_cases hl1 : 1048576 < n1
  · go_enter Try.func6, Try.ntmps6
    go_wp2_with fail
    go_ret
    exact ⟨rfl, Below.refl _ _⟩
  have hk1 : n1 ≤ 1048576 := by omega
  go_enter Try.func6, Try.ntmps6
  go_wp2_with fail
  refine (szPileS_any A0 n0 c0 m0 1048576 _ ((h0.below (Below.refl _ _)).mono (by omega)) hn0 hss0 (by omega) (by omega)).mono ?_
  rintro e w1 ⟨r0, rfl, hr0, -, hb1⟩
  have hz1 := hb1.size
  have hB1 : Below w.heap.size w w1 := (Below.refl _ _).trans (hb1.mono (by omega))
  rcases (show r0 < 0 ∨ 0 ≤ r0 by omega) with hg0 | hg0
  · go_wp2_with fail
    go_ret
    exact ⟨rfl, hB1⟩
  obtain ⟨hn', hs'⟩ := hr0 hg0
  have hk0 : n0 ≤ 1048576 := by omega
  have hs0 := Lib.hid (fun p hp => by have := hs' p hp; omega : ∀ p ∈ m0, p.1.size ≤ 1048576)
  clear hr0 hs' hss0
  go_wp2_with fail
  refine (toPileS_any A0 n0 c0 m0 _ ((h0.below hB1).mono (by omega)) hk0).mono ?_
  rintro e w2 ⟨Ay0, cy0, rfl, hcy0, y0, hb2⟩
  have hz2 := hb2.size
  have hB2 : Below w.heap.size w w2 := hB1.trans (hb2.mono (by omega))
  go_wp2_with fail
  refine (toIntS_any A1 n1 c1 m1 _ ((h1.below hB2).mono (by omega)) hk1).mono ?_
  rintro e w3 ⟨Ay1, cy1, rfl, hcy1, y1, hb3⟩
  have hz3 := hb3.size
  have hB3 : Below w.heap.size w w3 := hB2.trans (hb3.mono (by omega))
  have y0_3 := y0.keep hb3
  go_wp2_with fail
  refine (sRunoffWinner_any Ay0 n0 cy0 Ay1 n1 cy1 m0 m1 _ (y0_3.piles.fine hs0.out) hk0 y1.ints hk1 hcy1).mono ?_
  rintro e w4 ⟨rfl, hb4⟩
  have hz4 := hb4.size
  have hB4 : Below w.heap.size w w4 := hB3.trans (hb4.mono (by omega))
  have y0_4 := y0_3.keep hb4
  have y1_4 := y1.keep hb4
  go_wp2_with fail
  refine (toPileS_any A0 n0 c0 m0 _ ((h0.below hB4).mono (by omega)) hk0).mono ?_
  rintro e w5 ⟨Ax0, cx0, rfl, hcx0, x0, hb5⟩
  have hz5 := hb5.size
  have hB5 : Below w.heap.size w w5 := hB4.trans (hb5.mono (by omega))
  have hlt0 := own_lt x0
  go_wp2_with fail
  refine (toIntS_any A1 n1 c1 m1 _ ((h1.below hB5).mono (by omega)) hk1).mono ?_
  rintro e w6 ⟨Ax1, cx1, rfl, hcx1, x1, hb6⟩
  have hz6 := hb6.size
  have hB6 : Below w.heap.size w w6 := hB5.trans (hb6.mono (by omega))
  have x0_6 := x0.keep hb6
  have hlt1 := own_lt x1
  go_wp2_with fail
  refine (iRunoffWinner_any Ax0 n0 cx0 Ax1 n1 cx1 m0 m1 _ (x0_6.piles.fine hs0.out) hk0 hcx0 x1.ints hk1 hcx1).mono ?_
  rintro e w7 ⟨rfl, hb7⟩
  have hz7 := hb7.size
  have hB7 : Below w.heap.size w w7 := hB6.trans (hb7.mono (by omega))
  have x0_7 := x0_6.keep hb7
  have x1_7 := x1.keep hb7
  go_wp2_with fail
  refine (toPileS_any A0 n0 c0 m0 _ ((h0.below hB7).mono (by omega)) hk0).mono ?_
  rintro e w8 ⟨Az0, cz0, rfl, hcz0, z0, hb8⟩
  have hz8 := hb8.size
  have hB8 : Below w.heap.size w w8 := hB7.trans (hb8.mono (by omega))
  have x0_8 := x0_7.keep hb8
  have x1_8 := x1_7.keep hb8
  go_wp2_with fail
  refine (eqPileS_any Ax0 Az0 n0 cx0 n0 cz0 _ _ _ x0_8.piles z0.piles (by omega)).mono ?_
  rintro e w9 ⟨rfl, hb9⟩
  have hz9 := hb9.size
  have hB9 : Below w.heap.size w w9 := hB8.trans (hb9.mono (by omega))
  have x0_9 := x0_8.keep hb9
  have x1_9 := x1_8.keep hb9
  rw [decide_eq_true rfl]
  go_wp2_with fail
  refine (toIntS_any A1 n1 c1 m1 _ ((h1.below hB9).mono (by omega)) hk1).mono ?_
  rintro e w10 ⟨Az1, cz1, rfl, hcz1, z1, hb10⟩
  have hz10 := hb10.size
  have hB10 : Below w.heap.size w w10 := hB9.trans (hb10.mono (by omega))
  have x0_10 := x0_9.keep hb10
  have x1_10 := x1_9.keep hb10
  go_wp2_with fail
  refine (eqIntS_any Ax1 Az1 n1 cx1 n1 cz1 _ _ _ _ _ x1_10.ints z1.ints (by omega)).mono ?_
  rintro e w11 ⟨rfl, hd11⟩
  have hb11 := hd11.below w10.heap.size
  have hz11 := hb11.size
  have hB11 : Below w.heap.size w w11 := hB10.trans (hb11.mono (by omega))
  have x0_11 := x0_10.keep hb11
  have x1_11 := x1_10.keep hb11
  rw [decide_eq_true rfl]
  go_wp2_with fail
  go_ret
  exact ⟨rfl, hB11⟩
end Go.Proofs.Ytlbhbjhglkhbgaa
