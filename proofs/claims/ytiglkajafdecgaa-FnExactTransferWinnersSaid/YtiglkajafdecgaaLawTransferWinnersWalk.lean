/-
  The walk of FnExactTransferWinners.
-/
import Derived.Test.YtiglkajafdecgaaLawCopy
import Derived.Test.YtiglkajafdecgaaTransRun
import Derived.Test.YtiglkajafdecgaaTransRunS
namespace Go.Proofs.Ytiglkajafdecgaa
set_option linter.unusedVariables false
open Go.RowKit

set_option maxRecDepth 100000 in
set_option maxHeartbeats 400000 in
theorem lawTransferWinners_any (A0 : Option Addr) (n0 c0 : Nat) (m0 : List (ByteArray × Int)) (A1 : Option Addr) (n1 c1 : Nat) (m1 : List Int) (q2 : Int) (w : World) (h0 : PilesR w w.heap.size A0 n0 m0) (hn0 : n0 ≤ 9223372036854775807) (hc0 : n0 ≤ c0) (hss0 : ∀ p ∈ m0, p.1.size ≤ 9223372036854775807) (h1 : Ints w w.heap.size A1 n1 m1) (hn1 : n1 ≤ 9223372036854775807) (hc1 : n1 ≤ c1) :
    Calls Try.prog 3 #[.slice A0 n0 c0, .slice A1 n1 c1, .int .i64 q2] w fun e w' => e = .returned (.bool true) ∧ Below w.heap.size w w' := by
  by_cases hl1 : 1048576 < n1
  · go_enter Try.func3, Try.ntmps3
    go_wp2_with fail
    go_ret
    exact ⟨rfl, Below.refl _ _⟩
  have hk1 : n1 ≤ 1048576 := by omega
  go_enter Try.func3, Try.ntmps3
  go_wp2_with fail
  refine (szPileS_any A0 n0 c0 m0 1048576 _ ((h0.below (Below.refl _ _)).mono (by omega)) hn0 hss0 (by omega) (by omega)).mono ?_
  rintro e w1 ⟨r0, rfl, hr0, hle0, hb1⟩
  have hz1 := hb1.size
  have hB1 : Below w.heap.size w w1 := (Below.refl _ _).trans (hb1.mono (by omega))
  rcases (show r0 < 0 ∨ 0 ≤ r0 by omega) with hg0 | hg0
  · go_wp2_with fail
    go_ret
    exact ⟨rfl, hB1⟩
  obtain ⟨hn', hs'⟩ := hr0 hg0
  have hk0 : n0 ≤ 1048576 := by omega
  have hs0 := Lib.hid (fun p hp => by have := hs' p hp; omega : ∀ p ∈ m0, p.1.size ≤ 1048576)
  clear hr0 hs' hss0
  go_wp2_with fail
  refine (toPileS_any A0 n0 c0 m0 _ ((h0.below hB1).mono (by omega)) hk0).mono ?_
  rintro e w2 ⟨Ay0, cy0, rfl, hcy0, y0, hb2⟩
  have hz2 := hb2.size
  have hB2 : Below w.heap.size w w2 := hB1.trans (hb2.mono (by omega))
  go_wp2_with fail
  refine (toIntS_any A1 n1 c1 m1 _ ((h1.below hB2).mono (by omega)) hk1).mono ?_
  rintro e w3 ⟨Ay1, cy1, rfl, hcy1, y1, hb3⟩
  have hz3 := hb3.size
  have hB3 : Below w.heap.size w w3 := hB2.trans (hb3.mono (by omega))
  have y0_3 := y0.keep hb3
  go_wp2_with fail
  refine (sTransferWinners_any Ay0 n0 cy0 Ay1 n1 cy1 q2 m0 m1 _ (y0_3.piles.fine hs0.out) hk0 y1.ints hk1 hcy1).mono ?_
  rintro e w4 ⟨Awant, nwant, cwant, rfl, hcwant, hnwant, want, hb4⟩
  have hz4 := hb4.size
  have hB4 : Below w.heap.size w w4 := hB3.trans (hb4.mono (by omega))
  have y0_4 := y0_3.keep hb4
  have y1_4 := y1.keep hb4
  have vw := want.ints
  go_wp2_with fail
  refine (toPileS_any A0 n0 c0 m0 _ ((h0.below hB4).mono (by omega)) hk0).mono ?_
  rintro e w5 ⟨Ax0, cx0, rfl, hcx0, x0, hb5⟩
  have hz5 := hb5.size
  have hB5 : Below w.heap.size w w5 := hB4.trans (hb5.mono (by omega))
  have vw_5 := vw.below (hb5.mono (by omega))
  have hlt0 := own_lt x0
  go_wp2_with fail
  refine (toIntS_any A1 n1 c1 m1 _ ((h1.below hB5).mono (by omega)) hk1).mono ?_
  rintro e w6 ⟨Ax1, cx1, rfl, hcx1, x1, hb6⟩
  have hz6 := hb6.size
  have hB6 : Below w.heap.size w w6 := hB5.trans (hb6.mono (by omega))
  have x0_6 := x0.keep hb6
  have vw_6 := vw_5.below (hb6.mono (by omega))
  have hlt1 := own_lt x1
  go_wp2_with fail
  refine (iTransferWinners_any Ax0 n0 cx0 Ax1 n1 cx1 q2 m0 m1 _ (x0_6.piles.fine hs0.out) hk0 hcx0 x1.ints hk1 hcx1).mono ?_
  rintro e w7 ⟨Agot, ngot, cgot, rfl, hcgot, hngot, got, hb7⟩
  have hz7 := hb7.size
  have hB7 : Below w.heap.size w w7 := hB6.trans (hb7.mono (by omega))
  have x0_7 := x0_6.keep hb7
  have x1_7 := x1.keep hb7
  have vw_7 := vw_6.below (hb7.mono (by omega))
  go_wp2_with fail
  refine (eqIntS_any Agot Awant ngot cgot nwant cwant _ _ _ _ _ got.ints vw_7 (by omega)).mono ?_
  rintro e w8 ⟨rfl, hd8⟩
  have hb8 := hd8.below w7.heap.size
  have hz8 := hb8.size
  have hB8 : Below w.heap.size w w8 := hB7.trans (hb8.mono (by omega))
  have x0_8 := x0_7.keep hb8
  have x1_8 := x1_7.keep hb8
  have got_8 := got.keep hb8
  have vw_8 := vw_7.below (hb8.mono (by omega))
  rw [decide_eq_true rfl]
  go_wp2_with fail
  refine (toPileS_any A0 n0 c0 m0 _ ((h0.below hB8).mono (by omega)) hk0).mono ?_
  rintro e w9 ⟨Az0, cz0, rfl, hcz0, z0, hb9⟩
  have hz9 := hb9.size
  have hB9 : Below w.heap.size w w9 := hB8.trans (hb9.mono (by omega))
  have x0_9 := x0_8.keep hb9
  have x1_9 := x1_8.keep hb9
  have got_9 := got_8.keep hb9
  have vw_9 := vw_8.below (hb9.mono (by omega))
  go_wp2_with fail
  refine (eqPileS_any Ax0 Az0 n0 cx0 n0 cz0 _ _ _ x0_9.piles z0.piles (by omega)).mono ?_
  rintro e w10 ⟨rfl, hb10⟩
  have hz10 := hb10.size
  have hB10 : Below w.heap.size w w10 := hB9.trans (hb10.mono (by omega))
  have x0_10 := x0_9.keep hb10
  have x1_10 := x1_9.keep hb10
  have got_10 := got_9.keep hb10
  have vw_10 := vw_9.below (hb10.mono (by omega))
  rw [decide_eq_true rfl]
  go_wp2_with fail
  refine (toIntS_any A1 n1 c1 m1 _ ((h1.below hB10).mono (by omega)) hk1).mono ?_
  rintro e w11 ⟨Az1, cz1, rfl, hcz1, z1, hb11⟩
  have hz11 := hb11.size
  have hB11 : Below w.heap.size w w11 := hB10.trans (hb11.mono (by omega))
  have x0_11 := x0_10.keep hb11
  have x1_11 := x1_10.keep hb11
  have got_11 := got_10.keep hb11
  have vw_11 := vw_10.below (hb11.mono (by omega))
  go_wp2_with fail
  refine (eqIntS_any Ax1 Az1 n1 cx1 n1 cz1 _ _ _ _ _ x1_11.ints z1.ints (by omega)).mono ?_
  rintro e w12 ⟨rfl, hd12⟩
  have hb12 := hd12.below w11.heap.size
  have hz12 := hb12.size
  have hB12 : Below w.heap.size w w12 := hB11.trans (hb12.mono (by omega))
  have x0_12 := x0_11.keep hb12
  have x1_12 := x1_11.keep hb12
  have got_12 := got_11.keep hb12
  have vw_12 := vw_11.below (hb12.mono (by omega))
  rw [decide_eq_true rfl]
  go_wp2_with fail
  refine (markPileS_own Ax0 _ _ n0 cx0 m0 (1) _ x0_12 (hlt0) hk0 (by omega) (by omega)).mono ?_
  rintro e w13 ⟨rfl, hm13⟩
  have hb13 := hm13.below (by omega)
  have hz13 := hb13.size
  have hB13 : Below w.heap.size w w13 := hB12.trans (hb13.mono (by omega))
  have x1_13 := Own.within x1_12 (by omega) hm13
  have got_13 := Own.within got_12 (by omega) hm13
  have vw_13 := vw_12.below (hb13.mono (by omega))
  go_wp2_with fail
  refine (markIntS_own Ax1 _ _ n1 cx1 m1 (1 + 2 * (n0 : Int)) _ x1_13 (hlt1) hk1 (by omega) (by omega)).mono ?_
  rintro e w14 ⟨rfl, -, hm14⟩
  have hb14 := hm14.below (by omega)
  have hz14 := hb14.size
  have hB14 : Below w.heap.size w w14 := hB13.trans (hb14.mono (by omega))
  have got_14 := Own.within got_13 (by omega) hm14
  have vw_14 := vw_13.below (hb14.mono (by omega))
  go_wp2_with fail
  refine (eqIntS_any Agot Awant ngot cgot nwant cwant _ _ _ _ _ got_14.ints vw_14 (by omega)).mono ?_
  rintro e w15 ⟨rfl, hd15⟩
  have hb15 := hd15.below w14.heap.size
  have hz15 := hb15.size
  have hB15 : Below w.heap.size w w15 := hB14.trans (hb15.mono (by omega))
  have got_15 := got_14.keep hb15
  have vw_15 := vw_14.below (hb15.mono (by omega))
  rw [decide_eq_true rfl]
  go_wp2_with fail
  refine (markIntS_own Agot _ w15.heap.size ngot cgot _ 1 _ got_15 (fun g hg => (own_lt got_15 g hg)) (by omega) (by omega) (by omega)).mono ?_
  rintro e w16 ⟨rfl, got, hm16⟩
  have hb16 := hm16.below (by omega)
  have hz16 := hb16.size
  have hB16 : Below w.heap.size w w16 := hB15.trans (hb16.mono (by omega))
  have vw_16 := vw_15.below (hb16.mono (by omega))
  go_wp2_with fail
  refine (heldIntS_any Agot ngot cgot 1 _ _ got.ints (by omega) (by omega) (by omega)).mono ?_
  rintro e w' ⟨rfl, rfl⟩
  go_wp2_with fail
  refine (toPileS_any A0 n0 c0 m0 _ ((h0.below hB16).mono (by omega)) hk0).mono ?_
  rintro e w17 ⟨Au0, cu0, rfl, hcu0, u0, hb17⟩
  have hz17 := hb17.size
  have hB17 : Below w.heap.size w w17 := hB16.trans (hb17.mono (by omega))
  have got_17 := got.keep hb17
  have vw_17 := vw_16.below (hb17.mono (by omega))
  go_wp2_with fail
  refine (toIntS_any A1 n1 c1 m1 _ ((h1.below hB17).mono (by omega)) hk1).mono ?_
  rintro e w18 ⟨Au1, cu1, rfl, hcu1, u1, hb18⟩
  have hz18 := hb18.size
  have hB18 : Below w.heap.size w w18 := hB17.trans (hb18.mono (by omega))
  have got_18 := got_17.keep hb18
  have u0_18 := u0.keep hb18
  have vw_18 := vw_17.below (hb18.mono (by omega))
  go_wp2_with fail
  refine (iTransferWinners_any Au0 n0 cu0 Au1 n1 cu1 q2 m0 m1 _ (u0_18.piles.fine hs0.out) hk0 hcu0 u1.ints hk1 hcu1).mono ?_
  rintro e w19 ⟨Aagain, nagain, cagain, rfl, hcagain, hnagain, again, hb19⟩
  have hz19 := hb19.size
  have hB19 : Below w.heap.size w w19 := hB18.trans (hb19.mono (by omega))
  have got_19 := got_18.keep hb19
  have u0_19 := u0_18.keep hb19
  have u1_19 := u1.keep hb19
  have vw_19 := vw_18.below (hb19.mono (by omega))
  go_wp2_with fail
  refine (eqIntS_any Aagain Awant nagain cagain nwant cwant _ _ _ _ _ again.ints vw_19 (by omega)).mono ?_
  rintro e w20 ⟨rfl, hd20⟩
  have hb20 := hd20.below w19.heap.size
  have hz20 := hb20.size
  have hB20 : Below w.heap.size w w20 := hB19.trans (hb20.mono (by omega))
  have got_20 := got_19.keep hb20
  have again_20 := again.keep hb20
  have vw_20 := vw_19.below (hb20.mono (by omega))
  rw [decide_eq_true rfl]
  go_wp2_with fail
  refine (heldIntS_any Agot ngot cgot 1 _ _ got_20.ints (by omega) (by omega) (by omega)).mono ?_
  rintro e w' ⟨rfl, rfl⟩
  go_wp2_with fail
  go_ret
  exact ⟨rfl, hB20⟩
end Go.Proofs.Ytiglkajafdecgaa
