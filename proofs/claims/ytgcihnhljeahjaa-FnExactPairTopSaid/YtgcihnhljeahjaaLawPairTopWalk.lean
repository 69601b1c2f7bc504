/-
  The walk of FnExactPairTop.
-/
import Derived.Test.YtgcihnhljeahjaaLawCopy
import Derived.Test.YtgcihnhljeahjaaTopS
import Derived.Test.YtgcihnhljeahjaaTopZ
namespace Go.Proofs.Ytgcihnhljeahjaa
set_option linter.unusedVariables false
open Go.RowKit

set_option maxRecDepth 100000 in
set_option maxHeartbeats 400000 in
theorem lawPairTop_any (A0 : Option Addr) (n0 c0 : Nat) (m0 : List (ByteArray × Int)) (q1 : Int) (w : World) (h0 : PilesR w w.heap.size A0 n0 m0) (hn0 : n0 ≤ 9223372036854775807) (hc0 : n0 ≤ c0) (hss0 : ∀ p ∈ m0, p.1.size ≤ 9223372036854775807) :
    Calls Try.prog 3 #[.slice A0 n0 c0, .int .i64 q1] w fun e w' => e = .returned (.bool true) ∧ Below w.heap.size w w' := by
  go_enter Try.func3, Try.ntmps3
  go_wp2_with fail
  refine (szPileS_any A0 n0 c0 m0 1048576 _ ((h0.below (Below.refl _ _)).mono (by omega)) hn0 hss0 (by omega) (by omega)).mono ?_
  rintro e w1 ⟨r0, rfl, hr0, hle0, hb1⟩
  have hz1 := hb1.size
  have hB1 : Below w.heap.size w w1 := (Below.refl _ _).trans (hb1.mono (by omega))
  rcases (show r0 < 0 ∨ 0 ≤ r0 by omega) with hg0 | hg0
  · go_wp2_with fail
    go_ret
    exact ⟨rfl, hB1⟩
  obtain ⟨hn', hs'⟩ := hr0 hg0
  have hk0 : n0 ≤ 1048576 := by omega
  have hs0 := Lib.hid (fun p hp => by have := hs' p hp; omega : ∀ p ∈ m0, p.1.size ≤ 1048576)
  clear hr0 hs' hss0
  go_wp2_with fail
  refine (toPileS_any A0 n0 c0 m0 _ ((h0.below hB1).mono (by omega)) hk0).mono ?_
  rintro e w2 ⟨Ay0, cy0, rfl, hcy0, y0, hb2⟩
  have hz2 := hb2.size
  have hB2 : Below w.heap.size w w2 := hB1.trans (hb2.mono (by omega))
  go_wp2_with fail
  refine (sPairTop_any Ay0 n0 cy0 q1 m0 _ (y0.piles.fine hs0.out) hk0).mono ?_
  rintro e w3 ⟨Awant, nwant, cwant, rfl, hcwant, hnwant, want, hb3⟩
  have hz3 := hb3.size
  have hB3 : Below w.heap.size w w3 := hB2.trans (hb3.mono (by omega))
  have y0_3 := y0.keep hb3
  have vw := want.ints
  go_wp2_with fail
  refine (toPileS_any A0 n0 c0 m0 _ ((h0.below hB3).mono (by omega)) hk0).mono ?_
  rintro e w4 ⟨Ax0, cx0, rfl, hcx0, x0, hb4⟩
  have hz4 := hb4.size
  have hB4 : Below w.heap.size w w4 := hB3.trans (hb4.mono (by omega))
  have vw_4 := vw.below (hb4.mono (by omega))
  have hlt0 := own_lt x0
  go_wp2_with fail
  refine (iPairTop_any Ax0 n0 cx0 q1 m0 _ (x0.piles.fine hs0.out) hk0 hcx0).mono ?_
  rintro e w5 ⟨Agot, ngot, cgot, rfl, hcgot, hngot, got, hb5⟩
  have hz5 := hb5.size
  have hB5 : Below w.heap.size w w5 := hB4.trans (hb5.mono (by omega))
  have x0_5 := x0.keep hb5
  have vw_5 := vw_4.below (hb5.mono (by omega))
  go_wp2_with fail
  refine (eqIntS_any Agot Awant ngot cgot nwant cwant _ _ _ _ _ got.ints vw_5 (by omega)).mono ?_
  rintro e w6 ⟨rfl, hd6⟩
  have hb6 := hd6.below w5.heap.size
  have hz6 := hb6.size
  have hB6 : Below w.heap.size w w6 := hB5.trans (hb6.mono (by omega))
  have x0_6 := x0_5.keep hb6
  have got_6 := got.keep hb6
  have vw_6 := vw_5.below (hb6.mono (by omega))
  rw [decide_eq_true rfl]
  go_wp2_with fail
  refine (toPileS_any A0 n0 c0 m0 _ ((h0.below hB6).mono (by omega)) hk0).mono ?_
  rintro e w7 ⟨Az0, cz0, rfl, hcz0, z0, hb7⟩
  have hz7 := hb7.size
  have hB7 : Below w.heap.size w w7 := hB6.trans (hb7.mono (by omega))
  have x0_7 := x0_6.keep hb7
  have got_7 := got_6.keep hb7
  have vw_7 := vw_6.below (hb7.mono (by omega))
  go_wp2_with fail
  refine (eqPileS_any Ax0 Az0 n0 cx0 n0 cz0 _ _ _ x0_7.piles z0.piles (by omega)).mono ?_
  rintro e w8 ⟨rfl, hb8⟩
  have hz8 := hb8.size
  have hB8 : Below w.heap.size w w8 := hB7.trans (hb8.mono (by omega))
  have x0_8 := x0_7.keep hb8
  have got_8 := got_7.keep hb8
  have vw_8 := vw_7.below (hb8.mono (by omega))
  rw [decide_eq_true rfl]
  go_wp2_with fail
  refine (markPileS_own Ax0 _ _ n0 cx0 m0 (1) _ x0_8 (hlt0) hk0 (by omega) (by omega)).mono ?_
  rintro e w9 ⟨rfl, hm9⟩
  have hb9 := hm9.below (by omega)
  have hz9 := hb9.size
  have hB9 : Below w.heap.size w w9 := hB8.trans (hb9.mono (by omega))
  have got_9 := Own.within got_8 (by omega) hm9
  have vw_9 := vw_8.below (hb9.mono (by omega))
  go_wp2_with fail
  refine (eqIntS_any Agot Awant ngot cgot nwant cwant _ _ _ _ _ got_9.ints vw_9 (by omega)).mono ?_
  rintro e w10 ⟨rfl, hd10⟩
  have hb10 := hd10.below w9.heap.size
  have hz10 := hb10.size
  have hB10 : Below w.heap.size w w10 := hB9.trans (hb10.mono (by omega))
  have got_10 := got_9.keep hb10
  have vw_10 := vw_9.below (hb10.mono (by omega))
  rw [decide_eq_true rfl]
  go_wp2_with fail
  refine (markIntS_own Agot _ w10.heap.size ngot cgot _ 1 _ got_10 (fun g hg => (own_lt got_10 g hg)) (by omega) (by omega) (by omega)).mono ?_
  rintro e w11 ⟨rfl, got, hm11⟩
  have hb11 := hm11.below (by omega)
  have hz11 := hb11.size
  have hB11 : Below w.heap.size w w11 := hB10.trans (hb11.mono (by omega))
  have vw_11 := vw_10.below (hb11.mono (by omega))
  go_wp2_with fail
  refine (heldIntS_any Agot ngot cgot 1 _ _ got.ints (by omega) (by omega) (by omega)).mono ?_
  rintro e w' ⟨rfl, rfl⟩
  go_wp2_with fail
  refine (toPileS_any A0 n0 c0 m0 _ ((h0.below hB11).mono (by omega)) hk0).mono ?_
  rintro e w12 ⟨Au0, cu0, rfl, hcu0, u0, hb12⟩
  have hz12 := hb12.size
  have hB12 : Below w.heap.size w w12 := hB11.trans (hb12.mono (by omega))
  have got_12 := got.keep hb12
  have vw_12 := vw_11.below (hb12.mono (by omega))
  go_wp2_with fail
  refine (iPairTop_any Au0 n0 cu0 q1 m0 _ (u0.piles.fine hs0.out) hk0 hcu0).mono ?_
  rintro e w13 ⟨Aagain, nagain, cagain, rfl, hcagain, hnagain, again, hb13⟩
  have hz13 := hb13.size
  have hB13 : Below w.heap.size w w13 := hB12.trans (hb13.mono (by omega))
  have got_13 := got_12.keep hb13
  have u0_13 := u0.keep hb13
  have vw_13 := vw_12.below (hb13.mono (by omega))
  go_wp2_with fail
  refine (eqIntS_any Aagain Awant nagain cagain nwant cwant _ _ _ _ _ again.ints vw_13 (by omega)).mono ?_
  rintro e w14 ⟨rfl, hd14⟩
  have hb14 := hd14.below w13.heap.size
  have hz14 := hb14.size
  have hB14 : Below w.heap.size w w14 := hB13.trans (hb14.mono (by omega))
  have got_14 := got_13.keep hb14
  have again_14 := again.keep hb14
  have vw_14 := vw_13.below (hb14.mono (by omega))
  rw [decide_eq_true rfl]
  go_wp2_with fail
  refine (heldIntS_any Agot ngot cgot 1 _ _ got_14.ints (by omega) (by omega) (by omega)).mono ?_
  rintro e w' ⟨rfl, rfl⟩
  go_wp2_with fail
  go_ret
  exact ⟨rfl, hB14⟩
end Go.Proofs.Ytgcihnhljeahjaa
