/-
  The walk of FnPairPaths.
-/
import Derived.Test.YtbjkdplimdlfpaaLawTables
import Derived.Test.YtbjkdplimdlfpaaPathsS
import Derived.Test.YtbjkdplimdlfpaaPathsLaw
namespace Go.Proofs.Ytbjkdplimdlfpaa
set_option linter.unusedVariables false
open Go.RowKit

set_option maxRecDepth 100000 in
set_option maxHeartbeats 4000000 in
theorem lawPairPaths_any (A : Option Addr) (n c : Nat) (w : World) (h : Bytes w w.heap.size A n) (hn : n ≤ 9223372036854775807) (hc : n ≤ c) :
    Calls Try.prog 5 #[.slice A n c] w fun e w' => e = .returned (.bool true) ∧ Below w.heap.size w w' := by
  by_cases hb : 1048576 < n
  · go_enter Try.func5, Try.ntmps5
    go_wp2_with fail
    go_ret
    exact ⟨rfl, Below.refl _ _⟩
  go_enter Try.func5, Try.ntmps5
  go_wp2_with fail
  refine (drawPairPaths_some A n c _ h hn hc).mono ?_
  rintro e w1 ⟨gp, k, cp, mi, ps, rfl, hcp, hkp, hm0, hm6, hps, hb1⟩
  have hs1 := hb1.size
  go_wp2_with fail
  refine (iPairPaths_any _ k cp mi ps _ hps (by omega) hcp).mono ?_
  rintro e w2 ⟨A1, n1, c1, rfl, hc1, hn1, hown, hb2⟩
  have hs2 := hb2.size
  have hps2 := (hps.below hb2).mono hs2
  have hB2 := hb1.trans (hb2.mono hs1)
  go_wp2_with fail
  refine (sPairPaths_any _ k cp mi ps _ hps2 (by omega)).mono ?_
  rintro e w3 ⟨A2, n2, c2, rfl, hc2, hn2, hown2, hb3⟩
  have hs3 := hb3.size
  have hps3 := (hps2.below hb3).mono hs3
  have hB3 := hB2.trans (hb3.mono (by omega))
  have hv1 := hown.view
  have hv := (hv1.below hb3).mono hs3
  have hv2 := hown2.view
  clear hps hps2 hown2 hv1 hown
  cases hok : Bp.fits ps mi
  · rw [hok, tres_no rfl] at hv hv2
    have hcall := fun q => sameTable_same _ _ n1 c1 n2 c2 [] _ _ (w3.drewN q) (hv.drewN q) (hv2.drewN q) (by omega) (fun i => by simp)
    have Hcall := Lib.hid hcall
    clear hok hcall
    go_wp2_with fail
    refine (Hcall.out 0).mono ?_
    rintro e w4 ⟨rfl, hd4⟩
    obtain ⟨q4, rfl⟩ := hd4
    go_wp2_with fail
    refine (Hcall.out q4).mono ?_
    rintro e w5 ⟨rfl, hd5⟩
    go_wp2_with fail
    go_ret
    exact ⟨rfl, (hB3.trans (Drawn.below ((Drawn.refl w3).drewN q4) _)).trans (hd5.below _)⟩
  · have hmm := Bp.fits_n hok
    have hpv := Bp.fits_val hok
    obtain ⟨m, rfl⟩ := Int.eq_ofNat_of_zero_le hm0
    have m1 : 1 ≤ m := by omega
    have m5 : m ≤ 5 := by omega
    rw [hok, tres_yes rfl, Int.toNat_natCast] at hv hv2
    have hnn : n1 = m := by rw [← hv.1]; exact Bp.tabs_len _ _
    subst hnn
    have hcall := sameTable_same _ _ n1 c1 n2 c2 _ _ _ w3 hv hv2 (by omega) (fun i => Bp.tabs_short n1 _ i (by omega))
    have Hcall := Lib.hid hcall
    have Hok := Lib.hid hok
    have Hpv := Lib.hid hpv
    clear hok hcall hpv
    go_wp2_with fail
    refine Hcall.out.mono ?_
    rintro e w4 ⟨rfl, hd4⟩
    have hb4 := hd4.below w3.heap.size
    have hs4 := hb4.size
    have hB4 := hB3.trans (hb4.mono (by omega))
    have hps4 := (hps3.below hb4).mono hs4
    have hv4 := (hv.below hb4).mono hs4
    obtain ⟨go, oo, _, _, _, _, hAo, hgo, _⟩ := hv4.at (k := 0) (by omega)
    subst hAo
    clear hv hv2 hps3
    have hcall := iPairCounts_any _ k cp (n1 : Int) ps _ hps4 (by omega) hcp
    rw [Hok.out, Int.toNat_natCast] at hcall
    have Hcall2 := Lib.hid hcall
    clear hcall
    go_wp2_with fail
    refine Hcall2.out.mono ?_
    rintro e w5 ⟨A3, n3, c3, rfl, hc3, hn3, hown5, hb5⟩
    have hs5 := hb5.size
    have hB5 := hB4.trans (hb5.mono (by omega))
    have hv5 := (hv4.below hb5).mono hs5
    rw [tres_yes rfl] at hown5
    have hm5 := hown5.view
    have hnn3 : n3 = n1 := by rw [← hm5.1]; exact Bp.tabs_len _ _
    subst hnn3
    obtain ⟨gm, om, _, _, _, _, hAm, hgm, _⟩ := hm5.at (k := 0) (by omega)
    subst hAm
    clear hv4 hown5 hb5
    unfold Bp.paths at hv5
    unfold Bp.pairs at hm5
    go_wp2_with fail
    go_loopw [11] (fun i wr => ∃ x : Nat, x ≤ n3 ∧ i = .int .i64 x ∧ Drawn w5 wr) (fun i _ => n3 - (intOf i).toNat)
    case atStart => exact ⟨0, Nat.zero_le _, rfl, Drawn.refl _⟩
    case round =>
      obtain ⟨x, hx, rfl, hd⟩ := hrel
      by_cases hxl : x < n3
      · obtain ⟨wo, rfl⟩ : ∃ wo : World, wo = wr := ⟨_, rfl⟩
        go_wp2_with fail
        go_loopw [12] (fun i wi => ∃ y : Nat, y ≤ n3 ∧ i = .int .i64 y ∧ Drawn w5 wi) (fun i _ => n3 - (intOf i).toNat)
        case atStart => exact ⟨0, Nat.zero_le _, rfl, hd⟩
        case round =>
          obtain ⟨y, hy, rfl, hd⟩ := hrel
          by_cases hyl : y < n3
          · obtain ⟨wq, rfl⟩ : ∃ wo : World, wo = wr := ⟨_, rfl⟩
            have i1 : (0 : Int) ≤ (x : Int) := by omega
            have i2 : (x : Int) < (n3 : Int) := by omega
            have i3 : (0 : Int) ≤ (y : Int) := by omega
            have i4 : (y : Int) < (n3 : Int) := by omega
            obtain ⟨ga, oa, ca, a1, ar⟩ := (hm5.below (hd.below _)).line rfl hxl
            have a2 := ar y hyl
            obtain ⟨gb, ob, cb, b1, br⟩ := (hm5.below (hd.below _)).line rfl hyl
            have b2 := br x hxl
            obtain ⟨gp, op, cp, p1, pr⟩ := (hv5.below (hd.below _)).line rfl hxl
            have p2 := pr y hyl
            clear ar br pr
            have hdirect : x ≠ y → Bp.pref ps y x < Bp.pref ps x y → Bp.pref ps x y ≤ Bp.pathF ps n3 x y := fun h1 h2 => Bp.path_direct Hpv.out hxl hyl h1 h2
            obtain ⟨z1, hz1⟩ : ∃ z, Bp.pref ps x y = z := ⟨_, rfl⟩
            obtain ⟨z2, hz2⟩ : ∃ z, Bp.pref ps y x = z := ⟨_, rfl⟩
            obtain ⟨z3, hz3⟩ : ∃ z, Bp.pathF ps n3 x y = z := ⟨_, rfl⟩
            rw [hz1] at a2 hdirect
            rw [hz2] at b2 hdirect
            rw [hz3] at p2 hdirect
            have Hz3 := Lib.hid hz3
            clear hz1 hz2 hz3
            rcases (show (((x : Int) != (y : Int)) = false) ∨ (((x : Int) != (y : Int)) = true ∧ decide (z2 < z1) = true ∧ decide (z3 < z1) = false) ∨ (((x : Int) != (y : Int)) = true ∧ decide (z2 < z1) = false) by
              by_cases hxy : x = y
              · exact .inl (by simp; omega)
              · have h1 : ((x : Int) != (y : Int)) = true := by simp; omega
                by_cases hgt : z2 < z1
                · exact .inr (.inl ⟨h1, decide_eq_true hgt, decide_eq_false (by have := hdirect hxy hgt; omega)⟩)
                · exact .inr (.inr ⟨h1, decide_eq_false hgt⟩)) with d1 | ⟨d1, d2, d3⟩ | ⟨d1, d2⟩
            all_goals
              clear hdirect
              go_wp2_with fail
              go_quiet (fail)
              go_wp2_with fail
              go_loopw [13] (fun i wk => ∃ q : Nat, q ≤ n3 ∧ i = .int .i64 q ∧ Drawn w5 wk) (fun i _ => n3 - (intOf i).toNat)
              case atStart => exact ⟨0, Nat.zero_le _, rfl, hd.drewN _⟩
              case round =>
                obtain ⟨q, hq, rfl, hdq⟩ := hrel
                by_cases hql : q < n3
                · have i5 : (0 : Int) ≤ (q : Int) := by omega
                  have i6 : (q : Int) < (n3 : Int) := by omega
                  obtain ⟨gs, os, cs, s1, sr⟩ := (hv5.below (hdq.below _)).line rfl hxl
                  have s2 := sr q hql
                  have r2 := sr y hyl
                  obtain ⟨gt, ot, ct, t1, tr⟩ := (hv5.below (hdq.below _)).line rfl hql
                  have t2 := tr y hyl
                  clear sr tr
                  rw [Hz3.out] at r2
                  have htri : x ≠ y → q ≠ x → q ≠ y → min (Bp.pathF ps n3 x q) (Bp.pathF ps n3 q y) ≤ z3 := fun h1 h2 h3 => by rw [← Hz3.out]; exact Bp.path_tri Hpv.out hxl hyl hql h1 h2 h3
                  obtain ⟨v1, hv1⟩ : ∃ z, Bp.pathF ps n3 x q = z := ⟨_, rfl⟩
                  obtain ⟨v2, hv2⟩ : ∃ z, Bp.pathF ps n3 q y = z := ⟨_, rfl⟩
                  rw [hv1] at s2 htri
                  rw [hv2] at t2 htri
                  clear hv1 hv2
                  rcases (show (((x : Int) != (y : Int)) = false) ∨ (((x : Int) != (y : Int)) = true ∧ ((q : Int) != (x : Int)) = false) ∨ (((x : Int) != (y : Int)) = true ∧ ((q : Int) != (x : Int)) = true ∧ ((q : Int) != (y : Int)) = false) ∨ (((x : Int) != (y : Int)) = true ∧ ((q : Int) != (x : Int)) = true ∧ ((q : Int) != (y : Int)) = true ∧ v2 < v1 ∧ decide (z3 < v2) = false) ∨ (((x : Int) != (y : Int)) = true ∧ ((q : Int) != (x : Int)) = true ∧ ((q : Int) != (y : Int)) = true ∧ ¬ v2 < v1 ∧ decide (z3 < v1) = false) by
                    by_cases hxy : x = y
                    · exact .inl (by simp; omega)
                    have h1 : ((x : Int) != (y : Int)) = true := by simp; omega
                    by_cases hqx : q = x
                    · exact .inr (.inl ⟨h1, by simp; omega⟩)
                    have h2 : ((q : Int) != (x : Int)) = true := by simp; omega
                    by_cases hqy : q = y
                    · exact .inr (.inr (.inl ⟨h1, h2, by simp; omega⟩))
                    have h3 : ((q : Int) != (y : Int)) = true := by simp; omega
                    have h4 := htri hxy hqx hqy
                    by_cases hv : v2 < v1
                    · exact .inr (.inr (.inr (.inl ⟨h1, h2, h3, hv, decide_eq_false (by omega)⟩)))
                    · exact .inr (.inr (.inr (.inr ⟨h1, h2, h3, hv, decide_eq_false (by omega)⟩)))) with e1 | ⟨e1, e2⟩ | ⟨e1, e2, e3⟩ | ⟨e1, e2, e3, e4, e5⟩ | ⟨e1, e2, e3, e4, e5⟩
                  all_goals first
                    | (exfalso; rw [d1] at e1; cases e1; done)
                    | (clear htri
                       go_wp2_with fail
                       go_quiet (fail)
                       go_wp2_with fail
                       go_roundw
                       case rel => exact ⟨q + 1, by omega, by go_num, hdq.drewN _⟩
                       case measure => simp [intOf]; omega)
                · go_wp2_with fail
                  go_roundw
                  case rel => exact ⟨y + 1, by omega, by go_num, hdq⟩
                  case measure => simp [intOf]; omega
          · go_wp2_with fail
            go_roundw
            case rel => exact ⟨x + 1, by omega, by go_num, hd⟩
            case measure => simp [intOf]; omega
      · go_wp2_with fail
        go_ret
        exact ⟨rfl, hB5.trans (hd.below _)⟩
end Go.Proofs.Ytbjkdplimdlfpaa
