/-
  The walk of FnPairTopLeast.
-/
import Derived.Test.YtgcihnhljeahjaaLawBestWalk
import Derived.Test.YtgcihnhljeahjaaTopZ
import Derived.Test.YtgcihnhljeahjaaTopS
import Derived.Test.YtgcihnhljeahjaaTopLawPlain
namespace Go.Proofs.Ytgcihnhljeahjaa
set_option linter.unusedVariables false
open Go.RowKit

set_option maxRecDepth 100000 in
set_option maxHeartbeats 4000000 in
theorem lawPairTopLeast_any (A : Option Addr) (n c : Nat) (w : World) (h : Bytes w w.heap.size A n) (hn : n ≤ 9223372036854775807) (hc : n ≤ c) :
    Calls Try.prog 5 #[.slice A n c] w fun e w' => e = .returned (.bool true) ∧ Below w.heap.size w w' := by
  by_cases hb : 1048576 < n
  · go_enter Try.func5, Try.ntmps5
    go_wp2_with fail
    go_ret
    exact ⟨rfl, Below.refl _ _⟩
  go_enter Try.func5, Try.ntmps5
  go_wp2_with fail
  refine (drawPairTop_some A n c _ h hn hc).mono ?_
  rintro e w1 ⟨gp, k, cp, mi, ps, rfl, hcp, hkp, hm0, hm6, hps, hb1⟩
  have hs1 := hb1.size
  go_wp2_with fail
  refine (iPairTop_any _ k cp mi ps _ hps (by omega) hcp).mono ?_
  rintro e w2 ⟨A1, n1, c1, rfl, hc1, hn1, hown, hb2⟩
  have hs2 := hb2.size
  have hps2 := (hps.below hb2).mono hs2
  have hB2 := hb1.trans (hb2.mono hs1)
  go_wp2_with fail
  refine (sPairTop_any _ k cp mi ps _ hps2 (by omega)).mono ?_
  rintro e w3 ⟨A2, n2, c2, rfl, hc2, hn2, hown2, hb3⟩
  have hs3 := hb3.size
  have hps3 := (hps2.below hb3).mono hs3
  have hB3 := hB2.trans (hb3.mono (by omega))
  have hv1 := hown.ints
  have hv := (hv1.below hb3).mono hs3
  have hv2 := hown2.ints
  have hnn : n2 = n1 := by rw [← hv.1, hv2.1]
  subst hnn
  clear hps hps2 hown2 hv1 hown
  have hcall := fun q => sameInts_any _ _ n2 c1 n2 c2 _ _ _ _ (w3.drewN q) (hv.below (below_drewN (Below.refl _ _) q)) (hv2.below (below_drewN (Below.refl _ _) q)) (by omega)
  simp only [decide_true] at hcall
  have Hcall := Lib.hid hcall
  clear hcall
  by_cases h0 : n2 ≤ 1
  · have hd0 : decide ((n2 : Int) < 2) = true := by simp; omega
    go_wp2_with fail
    refine (Hcall.out 0).mono ?_
    rintro e w4 ⟨rfl, hd4⟩
    obtain ⟨q4, rfl⟩ := hd4
    go_wp2_with fail
    refine (Hcall.out q4).mono ?_
    rintro e w5 ⟨rfl, hd5⟩
    go_wp2_with fail
    go_ret
    exact ⟨rfl, (hB3.trans (Drawn.below ((Drawn.refl w3).drewN q4) _)).trans (hd5.below _)⟩
  · have hd0 : decide ((n2 : Int) < 2) = false := by simp; omega
    cases hok : Bp.fits ps mi
    · rw [hok, cres_no rfl] at hv
      have := hv.1
      simp at this
      omega
    have hmm := Bp.fits_n hok
    obtain ⟨m, rfl⟩ := Int.eq_ofNat_of_zero_le hm0
    have m1 : 1 ≤ m := by omega
    have m5 : m ≤ 5 := by omega
    rw [hok, cres_yes rfl, Int.toNat_natCast] at hv
    have Hok := Lib.hid hok
    clear hok
    go_wp2_with fail
    refine (Hcall.out 0).mono ?_
    rintro e w4 ⟨rfl, hd4⟩
    have hb4 : Below w3.heap.size w3 w4 := hd4.below w3.heap.size
    have hs4 := hb4.size
    have hB4 := hB3.trans (hb4.mono (by omega))
    have hps4 := (hps3.below hb4).mono hs4
    have hv4 := (hv.below hb4).mono hs4
    clear hv hv2 hps3
    have hcc := iPairCounts_any _ k cp (m : Int) ps _ hps4 (by omega) hcp
    rw [Hok.out, Int.toNat_natCast] at hcc
    have Hcc := Lib.hid hcc
    clear hcc Hcall
    go_wp2_with fail
    refine Hcc.out.mono ?_
    rintro e w5 ⟨A5, n5, c5, rfl, hc5, hn5, own5, hb5⟩
    have hs5 := hb5.size
    have hB5 := hB4.trans (hb5.mono (by omega))
    have hv5 := (hv4.below hb5).mono hs5
    rw [tres_yes rfl] at own5
    have hm5 := own5.view
    have hnn5 : n5 = m := by rw [← hm5.1]; exact Bp.tabs_len _ _
    subst hnn5
    obtain ⟨gm, om, _, _, _, _, hAm, hgm, _⟩ := hm5.at (k := 0) (by omega)
    subst hAm
    obtain ⟨g0, o0, z0, rfl, _, _, _⟩ := hv5.at (k := 0) (by omega)
    have hl5 := Lib.hid hv5.1
    clear hv4 own5 hb5
    unfold Bp.pairs at hm5
    go_wp2_with fail
    go_loopw [9] (fun i wr => ∃ x : Nat, x ≤ n2 ∧ i = .int .i64 x ∧ Drawn w5 wr) (fun i _ => n2 - (intOf i).toNat)
    case atStart => exact ⟨0, Nat.zero_le _, rfl, Drawn.refl _⟩
    case round =>
      obtain ⟨x, hx, rfl, hd⟩ := hrel
      obtain ⟨wo, rfl⟩ : ∃ wo : World, wo = wr := ⟨_, rfl⟩
      by_cases hxl : x < n2
      · have i1 : (0 : Int) ≤ (x : Int) := by omega
        have i2 : (x : Int) < (n2 : Int) := by omega
        have hsr := Bp.top_some_rival ps (n := n5) (i := x) (by rw [hl5.out]; exact hxl) (by rw [hl5.out]; omega)
        rw [hl5.out] at hsr
        have Hsr := Lib.hid hsr
        clear hsr
        go_wp2_with fail
        go_loopw [10, 11] (fun s i wr => ∃ y : Nat, y ≤ n2 ∧ i = .int .i64 y ∧ s = .bool (Bp.someTo (Bp.rivals ps (Bp.tops ps n5) x) y) ∧ Drawn w5 wr) (fun _ i _ => n2 - (intOf i).toNat)
        case atStart => exact ⟨0, Nat.zero_le _, rfl, rfl, hd⟩
        case round =>
          obtain ⟨y, hy, rfl, rfl, hd⟩ := hrel
          by_cases hyl : y < n2
          · have i3 : (0 : Int) ≤ (y : Int) := by omega
            have i4 : (y : Int) < (n2 : Int) := by omega
            have hlow := hv5.below (hd.below _)
            obtain ⟨g1, o1, z, hA1, _, hcz, hzz⟩ := hlow.at hxl
            injection hA1 with hA1; injection hA1 with e1 e2
            subst e1; subst e2
            obtain ⟨j, hj, ej, htj⟩ := Bp.picks_get (Bp.isTop ps n5) (k := n5) (i := x) (by show x < (Bp.tops ps n5).length; rw [hl5.out]; exact hxl)
            have ej' : z = (j : Int) := by rw [← hzz.out]; exact ej
            subst ej'
            obtain ⟨g2, o2, z2, hA2, _, hcz2, hzz2⟩ := hlow.at hyl
            injection hA2 with hA2; injection hA2 with e1 e2
            subst e1; subst e2
            obtain ⟨q, hq, eq, htq⟩ := Bp.picks_get (Bp.isTop ps n5) (k := n5) (i := y) (by show y < (Bp.tops ps n5).length; rw [hl5.out]; exact hyl)
            have eq' : z2 = (q : Int) := by rw [← hzz2.out]; exact eq
            subst eq'
            have Hn := Lib.hid (show Bp.someTo (Bp.rivals ps (Bp.tops ps n5) x) (y + 1) = (Bp.someTo (Bp.rivals ps (Bp.tops ps n5) x) y || Bp.rivals ps (Bp.tops ps n5) x y) from rfl)
            have hriv : Bp.rivals ps (Bp.tops ps n5) x y = (!(y == x) && decide (Bp.pref ps j q ≤ Bp.pref ps q j)) := by
              unfold Bp.rivals
              rw [show (Bp.tops ps n5).getD x 0 = (j : Int) from ej, show (Bp.tops ps n5).getD y 0 = (q : Int) from eq]
              rfl
            have Hriv := Lib.hid hriv
            obtain ⟨s, hs⟩ : ∃ s, Bp.someTo (Bp.rivals ps (Bp.tops ps n5) x) y = s := ⟨_, rfl⟩
            rw [hs] at Hn
            rw [hs]
            have i5 : (0 : Int) ≤ (j : Int) := by omega
            have i6 : (j : Int) < (n5 : Int) := by omega
            have i7 : (0 : Int) ≤ (q : Int) := by omega
            have i8 : (q : Int) < (n5 : Int) := by omega
            obtain ⟨ga, oa, ca, a1, ar⟩ := (hm5.below (hd.below _)).line rfl hj
            obtain ⟨gb, ob, cb, b1, br⟩ := (hm5.below (hd.below _)).line rfl hq
            have a2 := ar q hq
            have b2 := br j hj
            obtain ⟨v1, hv1⟩ : ∃ z, Bp.pref ps j q = z := ⟨_, rfl⟩
            obtain ⟨v2, hv2⟩ : ∃ z, Bp.pref ps q j = z := ⟨_, rfl⟩
            rw [hv1] at a2
            rw [hv2] at b2
            rw [hv1, hv2] at Hriv
            clear ar br hv1 hv2 hriv hs ej eq htj htq
            cases s
            · by_cases hyx : y = x
              · have d1 : ((y : Int) != (x : Int)) = false := by simp; omega
                have Hyx := Lib.hid hyx
                clear hyx
                go_wp2_with fail
                go_quiet (fail)
                go_wp2_with fail
                go_roundw
                case rel => exact ⟨y + 1, by omega, by go_num, by rw [Hn.out, Hriv.out, Hyx.out]; simp, hd.drewN _⟩
                case measure => simp [intOf]; omega
              · have d1 : ((y : Int) != (x : Int)) = true := by simp; omega
                have Hyx := Lib.hid hyx
                clear hyx
                go_wp2_with fail
                go_quiet (fail)
                go_wp2_with fail
                go_roundw
                case rel => exact ⟨y + 1, by omega, by go_num, by rw [Hn.out, Hriv.out]; simp [Hyx.out], hd.drewN _⟩
                case measure => simp [intOf]; omega
            · go_wp2_with fail
              go_quiet (fail)
              go_wp2_with fail
              go_roundw
              case rel => exact ⟨y + 1, by omega, by go_num, by rw [Hn.out]; rfl, hd.drewN _⟩
              case measure => simp [intOf]; omega
          · have hyn : y = n2 := by omega
            subst hyn
            rw [Hsr.out]
            go_wp2_with fail
            go_roundw
            case rel => exact ⟨x + 1, by omega, by go_num, hd⟩
            case measure => simp [intOf]; omega
      · go_wp2_with fail
        go_ret
        exact ⟨rfl, hB5.trans (hd.below _)⟩
end Go.Proofs.Ytgcihnhljeahjaa
