/-
  The walk of FnPairTop.
-/
import Derived.Test.YtgcihnhljeahjaaLawBestWalk
import Derived.Test.YtgcihnhljeahjaaTopZ
import Derived.Test.YtgcihnhljeahjaaTopS
import Derived.Test.YtgcihnhljeahjaaTopLawPlain
namespace Go.Proofs.Ytgcihnhljeahjaa
set_option linter.unusedVariables false
open Go.RowKit

set_option maxRecDepth 100000 in
set_option maxHeartbeats 4000000 in
theorem lawPairTopL_any (A : Option Addr) (n c : Nat) (w : World) (h : Bytes w w.heap.size A n) (hn : n ≤ 9223372036854775807) (hc : n ≤ c) :
    Calls Try.prog 6 #[.slice A n c] w fun e w' => e = .returned (.bool true) ∧ Below w.heap.size w w' := by
  by_cases hb : 1048576 < n
  · go_enter Try.func6, Try.ntmps6
    go_wp2_with fail
    go_ret
    exact ⟨rfl, Below.refl _ _⟩
  go_enter Try.func6, Try.ntmps6
  go_wp2_with fail
  refine (drawPairTop_some A n c _ h hn hc).mono ?_
  rintro e w1 ⟨gp, k, cp, mi, ps, rfl, hcp, hkp, hm0, hm6, hps, hb1⟩
  have hs1 := hb1.size
  go_wp2_with fail
  refine (iPairTop_any _ k cp mi ps _ hps (by omega) hcp).mono ?_
  rintro e w2 ⟨A1, n1, c1, rfl, hc1, hn1, hown, hb2⟩
  have hs2 := hb2.size
  have hps2 := (hps.below hb2).mono hs2
  have hB2 := hb1.trans (hb2.mono hs1)
  go_wp2_with fail
  refine (sPairTop_any _ k cp mi ps _ hps2 (by omega)).mono ?_
  rintro e w3 ⟨A2, n2, c2, rfl, hc2, hn2, hown2, hb3⟩
  have hs3 := hb3.size
  have hps3 := (hps2.below hb3).mono hs3
  have hB3 := hB2.trans (hb3.mono (by omega))
  have hv1 := hown.ints
  have hv := (hv1.below hb3).mono hs3
  have hv2 := hown2.ints
  have hnn : n2 = n1 := by rw [← hv.1, hv2.1]
  subst hnn
  clear hps hps2 hown2 hv1 hown
  have hcall := fun q => sameInts_any _ _ n2 c1 n2 c2 _ _ _ _ (w3.drewN q) (hv.below (below_drewN (Below.refl _ _) q)) (hv2.below (below_drewN (Below.refl _ _) q)) (by omega)
  simp only [decide_true] at hcall
  have Hcall := Lib.hid hcall
  clear hcall
  by_cases h0 : n2 ≤ 0
  · have hd0 : ((n2 : Int) == 0) = true := by simp; omega
    go_wp2_with fail
    refine (Hcall.out 0).mono ?_
    rintro e w4 ⟨rfl, hd4⟩
    obtain ⟨q4, rfl⟩ := hd4
    go_wp2_with fail
    refine (Hcall.out q4).mono ?_
    rintro e w5 ⟨rfl, hd5⟩
    go_wp2_with fail
    go_ret
    exact ⟨rfl, (hB3.trans (Drawn.below ((Drawn.refl w3).drewN q4) _)).trans (hd5.below _)⟩
  · have hd0 : ((n2 : Int) == 0) = false := by simp; omega
    cases hok : Bp.fits ps mi
    · rw [hok, cres_no rfl] at hv
      have := hv.1
      simp at this
      omega
    have hmm := Bp.fits_n hok
    obtain ⟨m, rfl⟩ := Int.eq_ofNat_of_zero_le hm0
    have m1 : 1 ≤ m := by omega
    have m5 : m ≤ 5 := by omega
    rw [hok, cres_yes rfl, Int.toNat_natCast] at hv
    have Hok := Lib.hid hok
    clear hok
    go_wp2_with fail
    refine (Hcall.out 0).mono ?_
    rintro e w4 ⟨rfl, hd4⟩
    have hb4 : Below w3.heap.size w3 w4 := hd4.below w3.heap.size
    have hs4 := hb4.size
    have hB4 := hB3.trans (hb4.mono (by omega))
    have hps4 := (hps3.below hb4).mono hs4
    have hv4 := (hv.below hb4).mono hs4
    clear hv hv2 hps3
    have hcc := iPairCounts_any _ k cp (m : Int) ps _ hps4 (by omega) hcp
    rw [Hok.out, Int.toNat_natCast] at hcc
    have Hcc := Lib.hid hcc
    clear hcc Hcall
    go_wp2_with fail
    refine Hcc.out.mono ?_
    rintro e w5 ⟨A5, n5, c5, rfl, hc5, hn5, own5, hb5⟩
    have hs5 := hb5.size
    have hB5 := hB4.trans (hb5.mono (by omega))
    have hv5 := (hv4.below hb5).mono hs5
    rw [tres_yes rfl] at own5
    have hm5 := own5.view
    have hnn5 : n5 = m := by rw [← hm5.1]; exact Bp.tabs_len _ _
    subst hnn5
    obtain ⟨gm, om, _, _, _, _, hAm, hgm, _⟩ := hm5.at (k := 0) (by omega)
    subst hAm
    obtain ⟨g0, o0, z0, rfl, _, _, _⟩ := hv5.at (k := 0) (by omega)
    have hl5 := Lib.hid hv5.1
    clear hv4 own5 hb5
    unfold Bp.pairs at hm5
    go_wp2_with fail
    go_loopw [9] (fun i wr => ∃ x : Nat, x ≤ n2 ∧ i = .int .i64 x ∧ Drawn w5 wr) (fun i _ => n2 - (intOf i).toNat)
    case atStart => exact ⟨0, Nat.zero_le _, rfl, Drawn.refl _⟩
    case round =>
      obtain ⟨x, hx, rfl, hd⟩ := hrel
      obtain ⟨wo, rfl⟩ : ∃ wo : World, wo = wr := ⟨_, rfl⟩
      by_cases hxl : x < n2
      · have i1 : (0 : Int) ≤ (x : Int) := by omega
        have i2 : (x : Int) < (n2 : Int) := by omega
        have hvx := hv5.below (hd.below _)
        obtain ⟨g1, o1, z, hA1, _, hcz, hzz⟩ := hvx.at hxl
        injection hA1 with hA1; injection hA1 with e1 e2
        subst e1; subst e2
        obtain ⟨j, hj, ej, htj⟩ := Bp.picks_get (Bp.isTop ps n5) (k := n5) (i := x) (by show x < (Bp.tops ps n5).length; rw [hl5.out]; exact hxl)
        have ej' : z = (j : Int) := by rw [← hzz.out]; exact ej
        subst ej'
        have d1 : decide ((j : Int) < 0) = false := by simp
        have d2 : decide ((n5 : Int) ≤ (j : Int)) = false := by simp; omega
        have d2' : decide (n5 ≤ j) = false := decide_eq_false (by omega)
        have i3 : (0 : Int) ≤ (j : Int) := by omega
        have i4 : (j : Int) < (n5 : Int) := by omega
        have Htj := Lib.hid htj
        have Hej := Lib.hid ej
        clear htj ej
        have hlt : x = 0 ∨ ∃ (p : Nat) (zp : Int), (x : Int) - 1 = (p : Int) ∧ 0 < x ∧ p < n2 ∧ wo.cell? ⟨g0, o0 + p, none⟩ = some (.int .i64 zp) ∧ zp < (j : Int) := by
          rcases Nat.eq_zero_or_pos x with h | h
          · exact .inl h
          · refine .inr ⟨x - 1, (Bp.tops ps n5).getD (x - 1) 0, by omega, h, by omega, ?_, ?_⟩
            · obtain ⟨g2, o2, z2, hA2, _, hc2, hz2⟩ := hvx.at (k := x - 1) (by omega)
              injection hA2 with hA2; injection hA2 with e1 e2
              subst e1; subst e2
              rw [hc2, ← hz2.out]
            · have := Bp.picks_lt (Bp.isTop ps n5) n5 (x - 1) x (by omega) (by show x < (Bp.tops ps n5).length; rw [hl5.out]; exact hxl)
              rw [Hej.out] at this
              exact this
        rcases hlt with hx0 | ⟨p, zp, e1, hxp, hpn, hcp', hzp⟩
        · have d3 : decide ((0 : Int) < (x : Int)) = false := by simp; omega
          have d4 : decide (0 < x) = false := by simp; omega
          have Hx0 := Lib.hid hx0
          clear hx0 hvx
          go_wp2_with fail
          go_quiet (fail)
          go_wp2_with fail
          go_loopw [10] (fun i wr => ∃ y : Nat, y ≤ n5 ∧ i = .int .i64 y ∧ Drawn w5 wr) (fun i _ => n5 - (intOf i).toNat)
          case atStart => exact ⟨0, Nat.zero_le _, rfl, hd.drewN _⟩
          case round =>
            obtain ⟨y, hy, rfl, hd⟩ := hrel
            by_cases hyl : y < n5
            · have i7 : (0 : Int) ≤ (y : Int) := by omega
              have i8 : (y : Int) < (n5 : Int) := by omega
              have hlow := hv5.below (hd.below _)
              have hcz2 : wr.cell? ⟨g0, o0 + x, none⟩ = some (.int .i64 (j : Int)) := by
                obtain ⟨g2, o2, z2, hA2, _, hc2, hz2⟩ := hlow.at hxl
                injection hA2 with hA2; injection hA2 with e1 e2
                subst e1; subst e2
                rw [hc2, ← hz2.out]
                exact congrArg (fun z => some (Value.int .i64 z)) Hej.out
              cases hty : Bp.isTop ps n5 y
              · have hhas : Bp.has (Bp.tops ps n5) (y : Int) = false := by
                  unfold Bp.has
                  refine decide_eq_false (fun hmem => ?_)
                  obtain ⟨q, _, eq, hq⟩ := (Bp.picks_mem (Bp.isTop ps n5) _ n5).1 hmem
                  have : q = y := by omega
                  subst this
                  rw [hq] at hty
                  cases hty
                have hbt := Bp.top_beats ps hj hyl Htj.out hty
                obtain ⟨ga, oa, ca, a1, ar⟩ := (hm5.below (hd.below _)).line rfl hj
                obtain ⟨gb, ob, cb, b1, br⟩ := (hm5.below (hd.below _)).line rfl hyl
                have a2 := ar y hyl
                have b2 := br j hj
                obtain ⟨v1, hv1⟩ : ∃ z, Bp.pref ps j y = z := ⟨_, rfl⟩
                obtain ⟨v2, hv2⟩ : ∃ z, Bp.pref ps y j = z := ⟨_, rfl⟩
                rw [hv1] at a2
                rw [hv2] at b2
                rw [hv1, hv2] at hbt
                have d6 : decide (v1 ≤ v2) = false := decide_eq_false (by omega)
                have Hhas := Lib.hid hhas
                clear ar br hv1 hv2 hhas hty hbt hcz
                go_wp2_with fail
                go_quiet ((go_at_call 24; exact quiet_left (hasInt_val _ n2 c1 (y : Int) _ false Hhas.out _ _ (hlow.drewN _) (by omega))))
                go_wp2_with fail
                go_roundw
                case rel => exact ⟨y + 1, by omega, by go_num, hd.drewN _⟩
                case measure => simp [intOf]; omega
              · have hhas : Bp.has (Bp.tops ps n5) (y : Int) = true := by
                  unfold Bp.has
                  exact decide_eq_true ((Bp.picks_mem (Bp.isTop ps n5) _ n5).2 ⟨y, hyl, rfl, hty⟩)
                have Hhas := Lib.hid hhas
                clear hhas hty
                go_wp2_with fail
                go_quiet ((go_at_call 24; exact quiet_left (hasInt_val _ n2 c1 (y : Int) _ true Hhas.out _ _ (hlow.drewN _) (by omega))))
                go_wp2_with fail
                go_roundw
                case rel => exact ⟨y + 1, by omega, by go_num, hd.drewN _⟩
                case measure => simp [intOf]; omega
            · go_wp2_with fail
              go_roundw
              case rel => exact ⟨x + 1, by omega, by go_num, hd⟩
              case measure => simp [intOf]; omega
        · have d3 : decide ((0 : Int) < (x : Int)) = true := by simp; omega
          have d4 : decide (0 < x) = true := by simp; omega
          have e2 : IntKind.i64.wrap (p : Int) = (p : Int) := wrap_small _ (by omega) (by omega)
          have i5 : (0 : Int) ≤ (p : Int) := by omega
          have i6 : (p : Int) < (n2 : Int) := by omega
          have d5 : decide ((j : Int) ≤ zp) = false := by simp; omega
          clear hvx
          go_wp2_with fail
          go_quiet (fail)
          clear e1 e2
          go_wp2_with fail
          go_loopw [10] (fun i wr => ∃ y : Nat, y ≤ n5 ∧ i = .int .i64 y ∧ Drawn w5 wr) (fun i _ => n5 - (intOf i).toNat)
          case atStart => exact ⟨0, Nat.zero_le _, rfl, hd.drewN _⟩
          case round =>
            obtain ⟨y, hy, rfl, hd⟩ := hrel
            by_cases hyl : y < n5
            · have i7 : (0 : Int) ≤ (y : Int) := by omega
              have i8 : (y : Int) < (n5 : Int) := by omega
              have hlow := hv5.below (hd.below _)
              have hcz2 : wr.cell? ⟨g0, o0 + x, none⟩ = some (.int .i64 (j : Int)) := by
                obtain ⟨g2, o2, z2, hA2, _, hc2, hz2⟩ := hlow.at hxl
                injection hA2 with hA2; injection hA2 with e1 e2
                subst e1; subst e2
                rw [hc2, ← hz2.out]
                exact congrArg (fun z => some (Value.int .i64 z)) Hej.out
              cases hty : Bp.isTop ps n5 y
              · have hhas : Bp.has (Bp.tops ps n5) (y : Int) = false := by
                  unfold Bp.has
                  refine decide_eq_false (fun hmem => ?_)
                  obtain ⟨q, _, eq, hq⟩ := (Bp.picks_mem (Bp.isTop ps n5) _ n5).1 hmem
                  have : q = y := by omega
                  subst this
                  rw [hq] at hty
                  cases hty
                have hbt := Bp.top_beats ps hj hyl Htj.out hty
                obtain ⟨ga, oa, ca, a1, ar⟩ := (hm5.below (hd.below _)).line rfl hj
                obtain ⟨gb, ob, cb, b1, br⟩ := (hm5.below (hd.below _)).line rfl hyl
                have a2 := ar y hyl
                have b2 := br j hj
                obtain ⟨v1, hv1⟩ : ∃ z, Bp.pref ps j y = z := ⟨_, rfl⟩
                obtain ⟨v2, hv2⟩ : ∃ z, Bp.pref ps y j = z := ⟨_, rfl⟩
                rw [hv1] at a2
                rw [hv2] at b2
                rw [hv1, hv2] at hbt
                have d6 : decide (v1 ≤ v2) = false := decide_eq_false (by omega)
                have Hhas := Lib.hid hhas
                clear ar br hv1 hv2 hhas hty hbt hcz
                go_wp2_with fail
                go_quiet ((go_at_call 24; exact quiet_left (hasInt_val _ n2 c1 (y : Int) _ false Hhas.out _ _ (hlow.drewN _) (by omega))))
                go_wp2_with fail
                go_roundw
                case rel => exact ⟨y + 1, by omega, by go_num, hd.drewN _⟩
                case measure => simp [intOf]; omega
              · have hhas : Bp.has (Bp.tops ps n5) (y : Int) = true := by
                  unfold Bp.has
                  exact decide_eq_true ((Bp.picks_mem (Bp.isTop ps n5) _ n5).2 ⟨y, hyl, rfl, hty⟩)
                have Hhas := Lib.hid hhas
                clear hhas hty
                go_wp2_with fail
                go_quiet ((go_at_call 24; exact quiet_left (hasInt_val _ n2 c1 (y : Int) _ true Hhas.out _ _ (hlow.drewN _) (by omega))))
                go_wp2_with fail
                go_roundw
                case rel => exact ⟨y + 1, by omega, by go_num, hd.drewN _⟩
                case measure => simp [intOf]; omega
            · go_wp2_with fail
              go_roundw
              case rel => exact ⟨x + 1, by omega, by go_num, hd⟩
              case measure => simp [intOf]; omega
      · have hb5' := hd.below w5.heap.size
        go_wp2_with fail
        go_ret
        exact ⟨rfl, hB5.trans (hd.below _)⟩
end Go.Proofs.Ytgcihnhljeahjaa
