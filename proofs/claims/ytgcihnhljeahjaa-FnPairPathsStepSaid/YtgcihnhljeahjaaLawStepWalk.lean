/-
  The walk of FnPairPathsStep.
-/
import Derived.Test.YtgcihnhljeahjaaLawTables
import Derived.Test.YtgcihnhljeahjaaPathsS
import Derived.Test.YtgcihnhljeahjaaPathsLaw
import Derived.Deep.DeepCutAuto
namespace Go.Proofs.Ytgcihnhljeahjaa
set_option linter.unusedVariables false
open Go.RowKit

set_option maxRecDepth 100000 in
set_option maxHeartbeats 4000000 in
theorem lawPairPathsStep_any (A : Option Addr) (n c : Nat) (w : World) (h : Bytes w w.heap.size A n) (hn : n ≤ 9223372036854775807) (hc : n ≤ c) :
    Calls Try.prog 4 #[.slice A n c] w fun e w' => e = .returned (.bool true) ∧ Below w.heap.size w w' := by
  by_cases hb : 1048576 < n
  · go_enter Try.func4, Try.ntmps4
    go_wp2_with fail
    go_ret
    exact ⟨rfl, Below.refl _ _⟩
  go_enter Try.func4, Try.ntmps4
  go_wp2_with fail
  refine (drawPairPaths_some A n c _ h hn hc).mono ?_
  rintro e w1 ⟨gp, k, cp, mi, ps, rfl, hcp, hkp, hm0, hm6, hps, hb1⟩
  have hs1 := hb1.size
  go_wp2_with fail
  refine (iPairPaths_any _ k cp mi ps _ hps (by omega) hcp).mono ?_
  rintro e w2 ⟨A1, n1, c1, rfl, hc1, hn1, hown, hb2⟩
  have hs2 := hb2.size
  have hps2 := (hps.below hb2).mono hs2
  have hB2 := hb1.trans (hb2.mono hs1)
  go_wp2_with fail
  refine (sPairPaths_any _ k cp mi ps _ hps2 (by omega)).mono ?_
  rintro e w3 ⟨A2, n2, c2, rfl, hc2, hn2, hown2, hb3⟩
  have hs3 := hb3.size
  have hps3 := (hps2.below hb3).mono hs3
  have hB3 := hB2.trans (hb3.mono (by omega))
  have hv1 := hown.view
  have hv := (hv1.below hb3).mono hs3
  have hv2 := hown2.view
  clear hps hps2 hown2 hv1 hown
  cases hok : Bp.fits ps mi
  · rw [hok, tres_no rfl] at hv hv2
    have hcall := fun q => sameTable_same _ _ n1 c1 n2 c2 [] _ _ (w3.drewN q) (hv.drewN q) (hv2.drewN q) (by omega) (fun i => by simp)
    have Hcall := Lib.hid hcall
    clear hok hcall
    go_wp2_with fail
    refine (Hcall.out 0).mono ?_
    rintro e w4 ⟨rfl, hd4⟩
    obtain ⟨q4, rfl⟩ := hd4
    go_wp2_with fail
    refine (Hcall.out q4).mono ?_
    rintro e w5 ⟨rfl, hd5⟩
    go_wp2_with fail
    go_ret
    exact ⟨rfl, (hB3.trans (Drawn.below ((Drawn.refl w3).drewN q4) _)).trans (hd5.below _)⟩
  · have hmm := Bp.fits_n hok
    have hpv := Bp.fits_val hok
    obtain ⟨m, rfl⟩ := Int.eq_ofNat_of_zero_le hm0
    have m1 : 1 ≤ m := by omega
    have m5 : m ≤ 5 := by omega
    rw [hok, tres_yes rfl, Int.toNat_natCast] at hv hv2
    have hnn : n1 = m := by rw [← hv.1]; exact Bp.tabs_len _ _
    subst hnn
    have hcall := sameTable_same _ _ n1 c1 n2 c2 _ _ _ w3 hv hv2 (by omega) (fun i => Bp.tabs_short n1 _ i (by omega))
    have Hcall := Lib.hid hcall
    have Hok := Lib.hid hok
    have Hpv := Lib.hid hpv
    clear hok hcall hpv
    go_wp2_with fail
    refine Hcall.out.mono ?_
    rintro e w4 ⟨rfl, hd4⟩
    have hb4 := hd4.below w3.heap.size
    have hs4 := hb4.size
    have hB4 := hB3.trans (hb4.mono (by omega))
    have hps4 := (hps3.below hb4).mono hs4
    have hv4 := (hv.below hb4).mono hs4
    obtain ⟨go, oo, _, _, _, _, hAo, hgo, _⟩ := hv4.at (k := 0) (by omega)
    subst hAo
    clear hv hv2 hps3
    have hcall := iPairCounts_any _ k cp (n1 : Int) ps _ hps4 (by omega) hcp
    rw [Hok.out, Int.toNat_natCast] at hcall
    have Hcall2 := Lib.hid hcall
    clear hcall
    go_wp2_with fail
    refine Hcall2.out.mono ?_
    rintro e w5 ⟨A3, n3, c3, rfl, hc3, hn3, hown5, hb5⟩
    have hs5 := hb5.size
    have hB5 := hB4.trans (hb5.mono (by omega))
    have hv5 := (hv4.below hb5).mono hs5
    rw [tres_yes rfl] at hown5
    have hm5 := hown5.view
    have hnn3 : n3 = n1 := by rw [← hm5.1]; exact Bp.tabs_len _ _
    subst hnn3
    obtain ⟨gm, om, _, _, _, _, hAm, hgm, _⟩ := hm5.at (k := 0) (by omega)
    subst hAm
    clear hv4 hown5 hb5
    unfold Bp.paths at hv5
    unfold Bp.pairs at hm5
    go_wp2_with fail
    go_loopw [11] (fun i wr => ∃ x : Nat, x ≤ n3 ∧ i = .int .i64 x ∧ Drawn w5 wr) (fun i _ => n3 - (intOf i).toNat)
    case atStart => exact ⟨0, Nat.zero_le _, rfl, Drawn.refl _⟩
    case round =>
      obtain ⟨x, hx, rfl, hd⟩ := hrel
      by_cases hxl : x < n3
      · obtain ⟨wo, rfl⟩ : ∃ wo : World, wo = wr := ⟨_, rfl⟩
        go_wp2_with fail
        go_loopw [12] (fun i wi => ∃ y : Nat, y ≤ n3 ∧ i = .int .i64 y ∧ Drawn w5 wi) (fun i _ => n3 - (intOf i).toNat)
        case atStart => exact ⟨0, Nat.zero_le _, rfl, hd⟩
        case round =>
          obtain ⟨y, hy, rfl, hd⟩ := hrel
          by_cases hyl : y < n3
          · obtain ⟨wq, rfl⟩ : ∃ wo : World, wo = wr := ⟨_, rfl⟩
            have i1 : (0 : Int) ≤ (x : Int) := by omega
            have i2 : (x : Int) < (n3 : Int) := by omega
            have i3 : (0 : Int) ≤ (y : Int) := by omega
            have i4 : (y : Int) < (n3 : Int) := by omega
            obtain ⟨ga, oa, ca, a1, ar⟩ := (hm5.below (hd.below _)).line rfl hxl
            have a2 := ar y hyl
            obtain ⟨gb, ob, cb, b1, br⟩ := (hm5.below (hd.below _)).line rfl hyl
            have b2 := br x hxl
            obtain ⟨gp, op, cp, p1, pr⟩ := (hv5.below (hd.below _)).line rfl hxl
            have p2 := pr y hyl
            clear ar br pr
            have hstep := Bp.path_step Hpv.out hxl hyl
            obtain ⟨z3, hz3⟩ : ∃ z, Bp.pathF ps n3 x y = z := ⟨_, rfl⟩
            rw [hz3] at p2 hstep
            have Hz3 := Lib.hid hz3
            have Hone : Hid (((Bp.pref ps y x < Bp.pref ps x y ∧ Bp.pref ps x y = z3) → True)) := fun _ => trivial
            obtain ⟨z1, hz1⟩ : ∃ z, Bp.pref ps x y = z := ⟨_, rfl⟩
            obtain ⟨z2, hz2⟩ : ∃ z, Bp.pref ps y x = z := ⟨_, rfl⟩
            rw [hz1] at a2 hstep
            rw [hz2] at b2 hstep
            clear hz1 hz2 hz3 Hone
            have hsome : ∃ sb : Bool, sb = ((z3 == 0) || (decide (z2 < z1) && (z1 == z3))) := ⟨_, rfl⟩
            obtain ⟨sb, hsb⟩ := hsome
            have hrest : sb = false → ∃ k, k < n3 ∧ k ≠ x ∧ k ≠ y ∧ Bp.pref ps k x < Bp.pref ps x k ∧ z3 ≤ Bp.pref ps x k ∧ z3 ≤ Bp.pathF ps n3 k y := fun e => by
              rw [e] at hsb
              rcases hstep with h1 | ⟨h1, h2⟩ | h1
              · rw [h1] at hsb; simp at hsb
              · rw [h2] at hsb h1; rw [decide_eq_true h1] at hsb; simp at hsb
              · exact h1
            have Hrest := Lib.hid hrest
            go_upto_region 17 with (fail)
            go_cut [13] (fun s13 wx => s13 = .bool sb ∧ Drawn w5 wx)
            case first =>
              rcases (show ((z3 == 0) = true ∧ sb = true) ∨ ((z3 == 0) = false ∧ decide (z2 < z1) = false ∧ sb = false) ∨ ((z3 == 0) = false ∧ decide (z2 < z1) = true ∧ (z1 == z3) = sb) by
                cases h1 : (z3 == 0)
                · cases h2 : decide (z2 < z1)
                  · exact .inr (.inl ⟨rfl, rfl, by rw [hsb, h1, h2]; rfl⟩)
                  · exact .inr (.inr ⟨rfl, rfl, by rw [hsb, h1, h2]; simp⟩)
                · exact .inl ⟨rfl, by rw [hsb, h1]; rfl⟩) with ⟨d1, d2⟩ | ⟨d1, d2, d3⟩ | ⟨d1, d2, d3⟩
              all_goals
                clear hstep hrest hsb
                go_wp2_with fail
                go_quiet (fail)
                go_wp2_with fail
                go_meet
                exact ⟨by first | rfl | (rw [← d3]; done) | (simp [d2]; done) | (simp [d3]; done), hd.drewN _⟩
            case rest =>
              obtain ⟨rfl, hdc⟩ := hcut
              clear hstep hrest hsb
              go_wp2_with fail
              go_loopw [13, 14] (fun sv i wk => ∃ (q : Nat) (s : Bool), q ≤ n3 ∧ i = .int .i64 q ∧ sv = .bool s ∧ Hid (s = true ∨ (sb = false ∧ ∀ j, j < q → ¬ (j ≠ x ∧ j ≠ y ∧ Bp.pref ps j x < Bp.pref ps x j ∧ z3 ≤ Bp.pref ps x j ∧ z3 ≤ Bp.pathF ps n3 j y))) ∧ Drawn w5 wk) (fun _ i _ => n3 - (intOf i).toNat)
              case atStart =>
                refine ⟨0, sb, Nat.zero_le _, rfl, ?_, ?_, hdc⟩
                · rfl
                · cases sb
                  · exact .inr ⟨rfl, fun j hj => absurd hj (by omega)⟩
                  · exact .inl rfl
              case round =>
                obtain ⟨q, s, hq, rfl, rfl, hs, hdq⟩ := hrel
                by_cases hql : q < n3
                · have i5 : (0 : Int) ≤ (q : Int) := by omega
                  have i6 : (q : Int) < (n3 : Int) := by omega
                  obtain ⟨gs, os, cs, s1, sr⟩ := (hm5.below (hdq.below _)).line rfl hxl
                  have s2 := sr q hql
                  obtain ⟨gt, ot, ct, t1, tr⟩ := (hm5.below (hdq.below _)).line rfl hql
                  have t2 := tr x hxl
                  obtain ⟨gu, ou, cu, u1, ur⟩ := (hv5.below (hdq.below _)).line rfl hxl
                  have u2 := ur y hyl
                  obtain ⟨gv, ov, cv, v1, vr⟩ := (hv5.below (hdq.below _)).line rfl hql
                  have v2 := vr y hyl
                  rw [Hz3.out] at u2
                  clear sr tr ur vr
                  cases s
                  · have hno := hs.out.resolve_left (by simp)
                    have hcase : ∀ b : Bool, (b = true ↔ (q ≠ x ∧ q ≠ y ∧ Bp.pref ps q x < Bp.pref ps x q ∧ z3 ≤ Bp.pref ps x q ∧ z3 ≤ Bp.pathF ps n3 q y)) → (b = true ∨ (sb = false ∧ ∀ j, j < q + 1 → ¬ (j ≠ x ∧ j ≠ y ∧ Bp.pref ps j x < Bp.pref ps x j ∧ z3 ≤ Bp.pref ps x j ∧ z3 ≤ Bp.pathF ps n3 j y))) := fun b hb => by
                      cases b
                      · refine .inr ⟨hno.1, fun j hj => ?_⟩
                        by_cases hjq : j = q
                        · subst hjq
                          intro h
                          have := hb.2 h
                          cases this
                        · exact hno.2 j (by omega)
                      · exact .inl rfl
                    obtain ⟨v1, hv1⟩ : ∃ z, Bp.pref ps x q = z := ⟨_, rfl⟩
                    obtain ⟨v2', hv2⟩ : ∃ z, Bp.pref ps q x = z := ⟨_, rfl⟩
                    obtain ⟨v3, hv3⟩ : ∃ z, Bp.pathF ps n3 q y = z := ⟨_, rfl⟩
                    rw [hv1] at s2 hcase
                    rw [hv2] at t2 hcase
                    rw [hv3] at v2 hcase
                    have Hcase := Lib.hid hcase
                    clear hcase hv1 hv2 hv3 hno hs
                    rcases (show (((q : Int) != (x : Int)) = false ∧ q = x) ∨ (((q : Int) != (x : Int)) = true ∧ ((q : Int) != (y : Int)) = false ∧ q = y) ∨ (((q : Int) != (x : Int)) = true ∧ ((q : Int) != (y : Int)) = true ∧ decide (v2' < v1) = false) ∨ (((q : Int) != (x : Int)) = true ∧ ((q : Int) != (y : Int)) = true ∧ decide (v2' < v1) = true ∧ decide (z3 ≤ v1) = false) ∨ (((q : Int) != (x : Int)) = true ∧ ((q : Int) != (y : Int)) = true ∧ decide (v2' < v1) = true ∧ decide (z3 ≤ v1) = true ∧ (q ≠ x ∧ q ≠ y)) by
                      by_cases hqx : q = x
                      · exact .inl ⟨by simp; omega, hqx⟩
                      have h2 : ((q : Int) != (x : Int)) = true := by simp; omega
                      by_cases hqy : q = y
                      · exact .inr (.inl ⟨h2, by simp; omega, hqy⟩)
                      have h3 : ((q : Int) != (y : Int)) = true := by simp; omega
                      cases h4 : decide (v2' < v1)
                      · exact .inr (.inr (.inl ⟨h2, h3, rfl⟩))
                      · cases h5 : decide (z3 ≤ v1)
                        · exact .inr (.inr (.inr (.inl ⟨h2, h3, rfl, rfl⟩)))
                        · exact .inr (.inr (.inr (.inr ⟨h2, h3, rfl, rfl, hqx, hqy⟩)))) with ⟨e1, e2⟩ | ⟨e1, e2, e3⟩ | ⟨e1, e2, e3⟩ | ⟨e1, e2, e3, e4⟩ | ⟨e1, e2, e3, e4, e5⟩
                    · as_aux_lemma =>
                        have He := Lib.hid e2
                        clear e2
                        go_wp2_with fail
                        go_quiet (fail)
                        go_wp2_with fail
                        go_roundw
                        case rel => exact ⟨q + 1, false, by omega, by go_num, rfl, Hcase.out false (by constructor; (intro h; cases h); (intro h; exact absurd He.out h.1)), hdq.drewN _⟩
                        case measure => simp [intOf]; omega
                    · as_aux_lemma =>
                        have He := Lib.hid e3
                        clear e3
                        go_wp2_with fail
                        go_quiet (fail)
                        go_wp2_with fail
                        go_roundw
                        case rel => exact ⟨q + 1, false, by omega, by go_num, rfl, Hcase.out false (by constructor; (intro h; cases h); (intro h; exact absurd He.out h.2.1)), hdq.drewN _⟩
                        case measure => simp [intOf]; omega
                    · as_aux_lemma =>
                        have He := Lib.hid (of_decide_eq_false e3)
                        go_wp2_with fail
                        go_quiet (fail)
                        go_wp2_with fail
                        go_roundw
                        case rel => exact ⟨q + 1, false, by omega, by go_num, rfl, Hcase.out false (by constructor; (intro h; cases h); (intro h; have a := h.2.2.1; have b := He.out; omega)), hdq.drewN _⟩
                        case measure => simp [intOf]; omega
                    · as_aux_lemma =>
                        have He := Lib.hid (of_decide_eq_false e4)
                        go_wp2_with fail
                        go_quiet (fail)
                        go_wp2_with fail
                        go_roundw
                        case rel => exact ⟨q + 1, false, by omega, by go_num, rfl, Hcase.out false (by constructor; (intro h; cases h); (intro h; have a := h.2.2.2.1; have b := He.out; omega)), hdq.drewN _⟩
                        case measure => simp [intOf]; omega
                    · as_aux_lemma =>
                        have He := Lib.hid e5
                        have He3 := Lib.hid (of_decide_eq_true e3)
                        have He4 := Lib.hid (of_decide_eq_true e4)
                        clear e5
                        go_wp2_with fail
                        go_quiet (fail)
                        go_wp2_with fail
                        go_roundw
                        case rel => exact ⟨q + 1, decide (z3 ≤ v3), by omega, by go_num, rfl, Hcase.out _ (by rw [decide_eq_true_eq]; exact ⟨fun h => ⟨He.out.1, He.out.2, He3.out, He4.out, h⟩, fun h => h.2.2.2.2⟩), hdq.drewN _⟩
                        case measure => simp [intOf]; omega
                  · as_aux_lemma =>
                      go_wp2_with fail
                      go_quiet (fail)
                      go_wp2_with fail
                      go_roundw
                      case rel => exact ⟨q + 1, true, by omega, by go_num, rfl, .inl rfl, hdq.drewN _⟩
                      case measure => simp [intOf]; omega
                · have hst : s = true := by
                    rcases hs.out with h | ⟨h1, h2⟩
                    · exact h
                    · obtain ⟨j, hj, hr⟩ := Hrest.out h1
                      exact absurd hr (h2 j (by omega))
                  subst hst
                  go_wp2_with fail
                  go_roundw
                  case rel => exact ⟨y + 1, by omega, by go_num, hdq⟩
                  case measure => simp [intOf]; omega
          · go_wp2_with fail
            go_roundw
            case rel => exact ⟨x + 1, by omega, by go_num, hd⟩
            case measure => simp [intOf]; omega
      · go_wp2_with fail
        go_ret
        exact ⟨rfl, hB5.trans (hd.below _)⟩
end Go.Proofs.Ytgcihnhljeahjaa
