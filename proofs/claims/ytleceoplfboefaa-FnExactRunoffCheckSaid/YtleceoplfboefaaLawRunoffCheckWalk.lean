/-
  The walk of FnExactRunoffCheck.
-/
import Derived.Test.YtleceoplfboefaaLawCopy
import Derived.Test.YtleceoplfboefaaLawRoundCopy
import Derived.Test.YtleceoplfboefaaRunoffCheck
namespace Go.Proofs.Ytleceoplfboefaa
set_option linter.unusedVariables false
open Go.RowKit

set_option maxRecDepth 100000 in
set_option maxHeartbeats 400000 in
theorem lawRunoffCheck_any (A0 : Option Addr) (n0 c0 : Nat) (m0 : List (ByteArray × Int)) (A1 : Option Addr) (n1 c1 : Nat) (m1 : List Int) (A2 : Option Addr) (n2 c2 : Nat) (m2 : List Bp.Rnd) (w : World) (h0 : PilesR w w.heap.size A0 n0 m0) (hn0 : n0 ≤ 9223372036854775807) (hc0 : n0 ≤ c0) (hss0 : ∀ p ∈ m0, p.1.size ≤ 9223372036854775807) (h1 : Ints w w.heap.size A1 n1 m1) (hn1 : n1 ≤ 9223372036854775807) (hc1 : n1 ≤ c1) (h2 : RoundsV w w.heap.size A2 n2 m2) (hn2 : n2 ≤ 9223372036854775807) (hc2 : n2 ≤ c2) (hss2 : ∀ k, (m2.getD k default).1.length ≤ 9223372036854775807) :
    Calls Try.prog 4 #[.slice A0 n0 c0, .slice A1 n1 c1, .slice A2 n2 c2] w fun e w' => e = .returned (.bool true) ∧ Below w.heap.size w w' := by
  by_cases hl1 : 1048576 < n1
  · go_enter Try.func4, Try.ntmps4
    go_wp2_with fail
    go_ret
    exact ⟨rfl, Below.refl _ _⟩
  have hk1 : n1 ≤ 1048576 := by omega
  go_enter Try.func4, Try.ntmps4
  go_wp2_with fail
  refine (szPileS_any A0 n0 c0 m0 1048576 _ ((h0.below (Below.refl _ _)).mono (by omega)) hn0 hss0 (by omega) (by omega)).mono ?_
  rintro e w1 ⟨r0, rfl, hr0, hle0, hb1⟩
  have hz1 := hb1.size
  have hB1 : Below w.heap.size w w1 := (Below.refl _ _).trans (hb1.mono (by omega))
  rcases (show r0 < 0 ∨ 0 ≤ r0 by omega) with hg0 | hg0
  · go_wp2_with fail
    go_ret
    exact ⟨rfl, hB1⟩
  obtain ⟨hn', hs'⟩ := hr0 hg0
  have hk0 : n0 ≤ 1048576 := by omega
  have hs0 := Lib.hid (fun p hp => by have := hs' p hp; omega : ∀ p ∈ m0, p.1.size ≤ 1048576)
  clear hr0 hs' hss0
  go_wp2_with fail
  refine (szRoundS_any A2 n2 c2 m2 r0 _ ((h2.below hB1).mono (by omega)) hn2 hss2 (by omega) (by omega)).mono ?_
  rintro e w2 ⟨r2, rfl, hr2, hle2, hb2⟩
  have hz2 := hb2.size
  have hB2 : Below w.heap.size w w2 := hB1.trans (hb2.mono (by omega))
  rcases (show r2 < 0 ∨ 0 ≤ r2 by omega) with hg2 | hg2
  · go_wp2_with fail
    go_ret
    exact ⟨rfl, hB2⟩
  obtain ⟨hn'2, hs'2⟩ := hr2 hg2
  have hk2 : n2 ≤ 1048576 := by omega
  have hs2 := Lib.hid (fun k => by have := hs'2 k; omega : ∀ k, (m2.getD k default).1.length ≤ 1048576)
  clear hr2 hs'2 hss2
  go_wp2_with fail
  refine (toPileS_any A0 n0 c0 m0 _ ((h0.below hB2).mono (by omega)) hk0).mono ?_
  rintro e w3 ⟨Ay0, cy0, rfl, hcy0, y0, hb3⟩
  have hz3 := hb3.size
  have hB3 : Below w.heap.size w w3 := hB2.trans (hb3.mono (by omega))
  go_wp2_with fail
  refine (toIntS_any A1 n1 c1 m1 _ ((h1.below hB3).mono (by omega)) hk1).mono ?_
  rintro e w4 ⟨Ay1, cy1, rfl, hcy1, y1, hb4⟩
  have hz4 := hb4.size
  have hB4 : Below w.heap.size w w4 := hB3.trans (hb4.mono (by omega))
  have y0_4 := y0.keep hb4
  go_wp2_with fail
  refine (toRoundS_any A2 n2 c2 m2 _ ((h2.below hB4).mono (by omega)) hk2 hs2.out).mono ?_
  rintro e w5 ⟨Ay2, cy2, rfl, hcy2, y2, hb5⟩
  have hz5 := hb5.size
  have hB5 : Below w.heap.size w w5 := hB4.trans (hb5.mono (by omega))
  have y0_5 := y0_4.keep hb5
  have y1_5 := y1.keep hb5
  go_wp2_with fail
  refine (sRunoffCheck_any Ay0 n0 cy0 Ay1 n1 cy1 Ay2 n2 cy2 m0 m1 m2 _ (y0_5.piles.fine hs0.out) hk0 y1_5.ints hk1 hcy1 (y2.mono (by omega)) hk2 hs2.out).mono ?_
  rintro e w6 ⟨rfl, hb6⟩
  have hz6 := hb6.size
  have hB6 : Below w.heap.size w w6 := hB5.trans (hb6.mono (by omega))
  have y0_6 := y0_5.keep hb6
  have y1_6 := y1_5.keep hb6
  have y2_6 := y2.below (hb6.mono (by omega))
  go_wp2_with fail
  refine (toPileS_any A0 n0 c0 m0 _ ((h0.below hB6).mono (by omega)) hk0).mono ?_
  rintro e w7 ⟨Ax0, cx0, rfl, hcx0, x0, hb7⟩
  have hz7 := hb7.size
  have hB7 : Below w.heap.size w w7 := hB6.trans (hb7.mono (by omega))
  have hlt0 := own_lt x0
  go_wp2_with fail
  refine (toIntS_any A1 n1 c1 m1 _ ((h1.below hB7).mono (by omega)) hk1).mono ?_
  rintro e w8 ⟨Ax1, cx1, rfl, hcx1, x1, hb8⟩
  have hz8 := hb8.size
  have hB8 : Below w.heap.size w w8 := hB7.trans (hb8.mono (by omega))
  have x0_8 := x0.keep hb8
  have hlt1 := own_lt x1
  go_wp2_with fail
  refine (toRoundS_any A2 n2 c2 m2 _ ((h2.below hB8).mono (by omega)) hk2 hs2.out).mono ?_
  rintro e w9 ⟨Ax2, cx2, rfl, hcx2, x2, hb9⟩
  have hz9 := hb9.size
  have hB9 : Below w.heap.size w w9 := hB8.trans (hb9.mono (by omega))
  have x0_9 := x0_8.keep hb9
  have x1_9 := x1.keep hb9
  go_wp2_with fail
  refine (iRunoffCheck_any Ax0 n0 cx0 Ax1 n1 cx1 Ax2 n2 cx2 m0 m1 m2 _ (x0_9.piles.fine hs0.out) hk0 hcx0 x1_9.ints hk1 hcx1 (x2.mono (by omega))).mono ?_
  rintro e w10 ⟨rfl, hb10⟩
  have hz10 := hb10.size
  have hB10 : Below w.heap.size w w10 := hB9.trans (hb10.mono (by omega))
  have x0_10 := x0_9.keep hb10
  have x1_10 := x1_9.keep hb10
  have x2_10 := x2.below (hb10.mono (by omega))
  go_wp2_with fail
  refine (toPileS_any A0 n0 c0 m0 _ ((h0.below hB10).mono (by omega)) hk0).mono ?_
  rintro e w11 ⟨Az0, cz0, rfl, hcz0, z0, hb11⟩
  have hz11 := hb11.size
  have hB11 : Below w.heap.size w w11 := hB10.trans (hb11.mono (by omega))
  have x0_11 := x0_10.keep hb11
  have x1_11 := x1_10.keep hb11
  have x2_11 := x2_10.below (hb11.mono (by omega))
  go_wp2_with fail
  refine (eqPileS_any Ax0 Az0 n0 cx0 n0 cz0 _ _ _ x0_11.piles z0.piles (by omega)).mono ?_
  rintro e w12 ⟨rfl, hb12⟩
  have hz12 := hb12.size
  have hB12 : Below w.heap.size w w12 := hB11.trans (hb12.mono (by omega))
  have x0_12 := x0_11.keep hb12
  have x1_12 := x1_11.keep hb12
  have x2_12 := x2_11.below (hb12.mono (by omega))
  rw [decide_eq_true rfl]
  go_wp2_with fail
  refine (toIntS_any A1 n1 c1 m1 _ ((h1.below hB12).mono (by omega)) hk1).mono ?_
  rintro e w13 ⟨Az1, cz1, rfl, hcz1, z1, hb13⟩
  have hz13 := hb13.size
  have hB13 : Below w.heap.size w w13 := hB12.trans (hb13.mono (by omega))
  have x0_13 := x0_12.keep hb13
  have x1_13 := x1_12.keep hb13
  have x2_13 := x2_12.below (hb13.mono (by omega))
  go_wp2_with fail
  refine (eqIntS_any Ax1 Az1 n1 cx1 n1 cz1 _ _ _ _ _ x1_13.ints z1.ints (by omega)).mono ?_
  rintro e w14 ⟨rfl, hd14⟩
  have hb14 := hd14.below w13.heap.size
  have hz14 := hb14.size
  have hB14 : Below w.heap.size w w14 := hB13.trans (hb14.mono (by omega))
  have x0_14 := x0_13.keep hb14
  have x1_14 := x1_13.keep hb14
  have x2_14 := x2_13.below (hb14.mono (by omega))
  rw [decide_eq_true rfl]
  go_wp2_with fail
  refine (toRoundS_any A2 n2 c2 m2 _ ((h2.below hB14).mono (by omega)) hk2 hs2.out).mono ?_
  rintro e w15 ⟨Az2, cz2, rfl, hcz2, z2, hb15⟩
  have hz15 := hb15.size
  have hB15 : Below w.heap.size w w15 := hB14.trans (hb15.mono (by omega))
  have x0_15 := x0_14.keep hb15
  have x1_15 := x1_14.keep hb15
  have x2_15 := x2_14.below (hb15.mono (by omega))
  go_wp2_with fail
  refine (eqRoundS_same Ax2 Az2 n2 cx2 n2 cz2 m2 _ _ _ x2_15 z2 (by omega) (by omega) (by omega) hs2.out).mono ?_
  rintro e w16 ⟨rfl, hb16⟩
  have hz16 := hb16.size
  have hB16 : Below w.heap.size w w16 := hB15.trans (hb16.mono (by omega))
  have x0_16 := x0_15.keep hb16
  have x1_16 := x1_15.keep hb16
  have x2_16 := x2_15.below (hb16.mono (by omega))
  have z2_16 := z2.below (hb16.mono (by omega))
  go_wp2_with fail
  go_ret
  exact ⟨rfl, hB16⟩
end Go.Proofs.Ytleceoplfboefaa
