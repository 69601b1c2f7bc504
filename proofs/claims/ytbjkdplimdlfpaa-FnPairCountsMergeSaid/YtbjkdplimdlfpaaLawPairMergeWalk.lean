/-
  The walk of FnPairCountsMerge.
-/
import Derived.Test.YtbjkdplimdlfpaaLawTables
import Derived.Test.YtbjkdplimdlfpaaPilesParts
namespace Go.Proofs.Ytbjkdplimdlfpaa
set_option linter.unusedVariables false
open Go.RowKit

set_option maxRecDepth 100000 in
set_option maxHeartbeats 4000000 in
theorem lawPairCountsMerge_any (A : Option Addr) (n c : Nat) (A' : Option Addr) (n' c' : Nat) (w : World) (h : Bytes w w.heap.size A n) (hn : n ≤ 9223372036854775807) (hc : n ≤ c) (h' : Bytes w w.heap.size A' n') (hn' : n' ≤ 9223372036854775807) (hc' : n' ≤ c') :
    Calls Try.prog 3 #[.slice A n c, .slice A' n' c'] w fun e w' => e = .returned (.bool true) ∧ Below w.heap.size w w' := by
  by_cases hb : 1048576 < n
  · go_enter Try.func3, Try.ntmps3
    go_wp2_with fail
    go_ret
    exact ⟨rfl, Below.refl _ _⟩
  by_cases hb' : 1048576 < n'
  · go_enter Try.func3, Try.ntmps3
    go_wp2_with fail
    go_ret
    exact ⟨rfl, Below.refl _ _⟩
  go_enter Try.func3, Try.ntmps3
  go_wp2_with fail
  refine (drawPairCounts_some A n c _ h hn hc).mono ?_
  rintro e w1 ⟨gp, k, cp, mi, ps, rfl, hcp, hkp, hm0, hm6, hps, hb1⟩
  have hs1 := hb1.size
  go_wp2_with fail
  refine (iPairCounts_any _ k cp mi ps _ hps (by omega) hcp).mono ?_
  rintro e w2 ⟨A1, n1, c1, rfl, hc1, hn1, hown, hb2⟩
  have hs2 := hb2.size
  have hps2 := (hps.below hb2).mono hs2
  have hB2 := hb1.trans (hb2.mono hs1)
  go_wp2_with fail
  refine (sPairCounts_any _ k cp mi ps _ hps2 (by omega)).mono ?_
  rintro e w3 ⟨A2, n2, c2, rfl, hc2, hn2, hown2, hb3⟩
  have hs3 := hb3.size
  have hps3 := (hps2.below hb3).mono hs3
  have hB3 := hB2.trans (hb3.mono (by omega))
  have hv1 := hown.view
  have hv := (hv1.below hb3).mono hs3
  have hv2 := hown2.view
  clear hps hps2 hown2 hv1 hown
  cases hok : Bp.fits ps mi
  · rw [hok, tres_no rfl] at hv hv2
    have hcall := fun q => sameTable_same _ _ n1 c1 n2 c2 [] _ _ (w3.drewN q) (hv.drewN q) (hv2.drewN q) (by omega) (fun i => by simp)
    have Hcall := Lib.hid hcall
    clear hok hcall
    go_wp2_with fail
    refine (Hcall.out 0).mono ?_
    rintro e w4 ⟨rfl, hd4⟩
    obtain ⟨q4, rfl⟩ := hd4
    go_wp2_with fail
    refine (Hcall.out q4).mono ?_
    rintro e w5 ⟨rfl, hd5⟩
    go_wp2_with fail
    go_ret
    exact ⟨rfl, (hB3.trans (Drawn.below ((Drawn.refl w3).drewN q4) _)).trans (hd5.below _)⟩
  · have hmm := Bp.fits_n hok
    have hpv := Bp.fits_val hok
    obtain ⟨m, rfl⟩ := Int.eq_ofNat_of_zero_le hm0
    have m1 : 1 ≤ m := by omega
    have m5 : m ≤ 5 := by omega
    rw [hok, tres_yes rfl, Int.toNat_natCast] at hv hv2
    have hnn : n1 = m := by rw [← hv.1]; exact Bp.tabs_len _ _
    subst hnn
    have hcall := sameTable_same _ _ n1 c1 n2 c2 _ _ _ w3 hv hv2 (by omega) (fun i => Bp.tabs_short n1 _ i (by omega))
    have Hcall := Lib.hid hcall
    have Hok := Lib.hid hok
    have Hpv := Lib.hid hpv
    clear hok hcall hpv
    go_wp2_with fail
    refine Hcall.out.mono ?_
    rintro e w4 ⟨rfl, hd4⟩
    have hb4 := hd4.below w3.heap.size
    have hs4 := hb4.size
    have hB4 := hB3.trans (hb4.mono (by omega))
    have hps4 := (hps3.below hb4).mono hs4
    have hv4 := (hv.below hb4).mono hs4
    obtain ⟨go, oo, _, _, _, _, hAo, hgo, _⟩ := hv4.at (k := 0) (by omega)
    subst hAo
    clear hv hv2 hps3
    have hpl := Lib.hid hps4.1.1
    have Hft := Lib.hid (Bp.fits_take Hok.out)
    have Hfd := Lib.hid (Bp.fits_drop Hok.out)
    obtain ⟨K, hK, hKk⟩ : ∃ K : Nat, (n' : Int) % ((k : Int) + 1) = (K : Int) ∧ K ≤ k := ⟨n' % (k + 1), by simp, by have := Nat.mod_lt n' (show 0 < k + 1 by omega); omega⟩
    have hKc : K ≤ cp := by omega
    clear Hcall
    by_cases hcK : cp = K
    · have hcK' := hcK.symm
      subst hcK'
      have hcall1 := iPairCounts_any (some ⟨gp, 0, none⟩) K K (n1 : Int) (ps.take K) w4 (hps4.take hKk) (by omega) hKc
      rw [Hft.out K, Int.toNat_natCast] at hcall1
      have Hcall1 := Lib.hid hcall1
      clear hcall1
      go_wp2_with fail
      (with_reducible refine Hcall1.out.mono ?_)
      rintro e w5 ⟨Ax, nx, cx, rfl, hcx, hnx, x5, hb5⟩
      have hs5 := hb5.size
      have hB5 := hB4.trans (hb5.mono (by omega))
      have hv5 := (hv4.below hb5).mono hs5
      have hps5 := (hps4.below hb5).mono hs5
      rw [tres_yes rfl] at x5
      have hnx2 : nx = n1 := by rw [← x5.view.1]; exact Bp.tabs_len _ _
      subst hnx2
      have hview : Piles w5 w5.heap.size (some ⟨gp, 0, none⟩) 0 (ps.drop K) := by
        have e : ps.drop K = [] := List.drop_eq_nil_of_le (by rw [hpl.out]; omega)
        rw [e]
        exact Piles.empty _
      have hcall2 := iPairCounts_any (some ⟨gp, 0, none⟩) 0 0 (nx : Int) (ps.drop K) w5 hview (by omega) (by omega)
      rw [Hfd.out K, Int.toNat_natCast] at hcall2
      have Hcall2 := Lib.hid hcall2
      clear hcall2 hview
      go_wp2_with fail
      (with_reducible refine Hcall2.out.mono ?_)
      rintro e w6 ⟨Ay, ny, cy, rfl, hcy, hny, y6, hb6⟩
      have hs6 := hb6.size
      have hB6 := hB5.trans (hb6.mono (by omega))
      have hv6 := (hv5.below hb6).mono hs6
      have hvx := (x5.keep hb6).view
      rw [tres_yes rfl] at y6
      have hvy := y6.view
      have hny2 : ny = nx := by rw [← hvy.1]; exact Bp.tabs_len _ _
      subst hny2
      obtain ⟨gx, ox, _, _, _, _, hAx, _⟩ := hvx.at (k := 0) (by omega)
      subst hAx
      obtain ⟨gy, oy, _, _, _, _, hAy, _⟩ := hvy.at (k := 0) (by omega)
      subst hAy
      unfold Bp.pairs at hv6 hvx hvy
      clear hv5 x5 y6 hK
      go_wp2_with fail
      go_loopw [16] (fun i wr => ∃ x : Nat, x ≤ ny ∧ i = .int .i64 x ∧ Drawn w6 wr) (fun i _ => ny - (intOf i).toNat)
      case atStart => exact ⟨0, Nat.zero_le _, rfl, Drawn.refl _⟩
      case round =>
        obtain ⟨x, hx, rfl, hd⟩ := hrel
        by_cases hxl : x < ny
        · obtain ⟨wo, rfl⟩ : ∃ wo : World, wo = wr := ⟨_, rfl⟩
          have i1 : (0 : Int) ≤ (x : Int) := by omega
          have i2 : (x : Int) < (ny : Int) := by omega
          go_wp2_with fail
          go_loopw [17] (fun i wi => ∃ y : Nat, y ≤ ny ∧ i = .int .i64 y ∧ Drawn w6 wi) (fun i _ => ny - (intOf i).toNat)
          case atStart => exact ⟨0, Nat.zero_le _, rfl, hd⟩
          case round =>
            obtain ⟨y, hy, rfl, hd⟩ := hrel
            by_cases hyl : y < ny
            · have i3 : (0 : Int) ≤ (y : Int) := by omega
              have i4 : (y : Int) < (ny : Int) := by omega
              obtain ⟨ga, oa, ca, a1, ar⟩ := (hv6.below (hd.below _)).line rfl hxl
              obtain ⟨gb, ob, cb, b1, br⟩ := (hvx.below (hd.below _)).line rfl hxl
              obtain ⟨gd, od, cd, d1, dr⟩ := (hvy.below (hd.below _)).line rfl hxl
              have a2 := ar y hyl
              have b2 := br y hyl
              have d2 := dr y hyl
              have hsum := Bp.pref_parts ps x y K (by rw [hpl.out]; exact hKk)
              have hbx := Bp.pref_bd (ps := ps.take K) x y (Bp.fits_val (Hft.out K))
              have hby := Bp.pref_bd (ps := ps.drop K) x y (Bp.fits_val (Hfd.out K))
              obtain ⟨z1, hz1⟩ : ∃ z, Bp.pref ps x y = z := ⟨_, rfl⟩
              obtain ⟨z2, hz2⟩ : ∃ z, Bp.pref (ps.take K) x y = z := ⟨_, rfl⟩
              obtain ⟨z3, hz3⟩ : ∃ z, Bp.pref (ps.drop K) x y = z := ⟨_, rfl⟩
              rw [hz1] at a2 hsum
              rw [hz2] at b2 hsum hbx
              rw [hz3] at d2 hsum hby
              have dd : (z1 != z2 + z3) = false := by rw [hsum]; simp
              have hwr : IntKind.i64.wrap (z2 + z3) = z2 + z3 := IntWalk.i64_in _ (by omega)
              have Hsum := Lib.hid hsum
              clear hsum ar br dr hz1 hz2 hz3
              go_wp2_with fail
              go_quiet (fail)
              go_wp2_with fail
              go_roundw
              case rel => exact ⟨y + 1, by omega, by go_num, hd.drewN _⟩
              case measure => simp [intOf]; omega
            · go_wp2_with fail
              go_roundw
              case rel => exact ⟨x + 1, by omega, by go_num, hd⟩
              case measure => simp [intOf]; omega
        · go_wp2_with fail
          go_ret
          exact ⟨rfl, hB6.trans (hd.below _)⟩
    · have hcall1 := iPairCounts_any (some ⟨gp, 0, none⟩) K cp (n1 : Int) (ps.take K) w4 (hps4.take hKk) (by omega) hKc
      rw [Hft.out K, Int.toNat_natCast] at hcall1
      have Hcall1 := Lib.hid hcall1
      clear hcall1
      go_wp2_with fail
      (with_reducible refine Hcall1.out.mono ?_)
      rintro e w5 ⟨Ax, nx, cx, rfl, hcx, hnx, x5, hb5⟩
      have hs5 := hb5.size
      have hB5 := hB4.trans (hb5.mono (by omega))
      have hv5 := (hv4.below hb5).mono hs5
      have hps5 := (hps4.below hb5).mono hs5
      rw [tres_yes rfl] at x5
      have hnx2 : nx = n1 := by rw [← x5.view.1]; exact Bp.tabs_len _ _
      subst hnx2
      have hview : Piles w5 w5.heap.size (some ⟨gp, K * 2, none⟩) (k - K) (ps.drop K) := by
        have := hps5.drop (k := K)
        rw [Nat.zero_add] at this
        exact this
      have hcall2 := iPairCounts_any (some ⟨gp, K * 2, none⟩) (k - K) (cp - K) (nx : Int) (ps.drop K) w5 hview (by omega) (by omega)
      rw [Hfd.out K, Int.toNat_natCast] at hcall2
      have Hcall2 := Lib.hid hcall2
      clear hcall2 hview
      go_wp2_with fail
      (with_reducible refine Hcall2.out.mono ?_)
      rintro e w6 ⟨Ay, ny, cy, rfl, hcy, hny, y6, hb6⟩
      have hs6 := hb6.size
      have hB6 := hB5.trans (hb6.mono (by omega))
      have hv6 := (hv5.below hb6).mono hs6
      have hvx := (x5.keep hb6).view
      rw [tres_yes rfl] at y6
      have hvy := y6.view
      have hny2 : ny = nx := by rw [← hvy.1]; exact Bp.tabs_len _ _
      subst hny2
      obtain ⟨gx, ox, _, _, _, _, hAx, _⟩ := hvx.at (k := 0) (by omega)
      subst hAx
      obtain ⟨gy, oy, _, _, _, _, hAy, _⟩ := hvy.at (k := 0) (by omega)
      subst hAy
      unfold Bp.pairs at hv6 hvx hvy
      clear hv5 x5 y6 hK
      go_wp2_with fail
      go_loopw [16] (fun i wr => ∃ x : Nat, x ≤ ny ∧ i = .int .i64 x ∧ Drawn w6 wr) (fun i _ => ny - (intOf i).toNat)
      case atStart => exact ⟨0, Nat.zero_le _, rfl, Drawn.refl _⟩
      case round =>
        obtain ⟨x, hx, rfl, hd⟩ := hrel
        by_cases hxl : x < ny
        · obtain ⟨wo, rfl⟩ : ∃ wo : World, wo = wr := ⟨_, rfl⟩
          have i1 : (0 : Int) ≤ (x : Int) := by omega
          have i2 : (x : Int) < (ny : Int) := by omega
          go_wp2_with fail
          go_loopw [17] (fun i wi => ∃ y : Nat, y ≤ ny ∧ i = .int .i64 y ∧ Drawn w6 wi) (fun i _ => ny - (intOf i).toNat)
          case atStart => exact ⟨0, Nat.zero_le _, rfl, hd⟩
          case round =>
            obtain ⟨y, hy, rfl, hd⟩ := hrel
            by_cases hyl : y < ny
            · have i3 : (0 : Int) ≤ (y : Int) := by omega
              have i4 : (y : Int) < (ny : Int) := by omega
              obtain ⟨ga, oa, ca, a1, ar⟩ := (hv6.below (hd.below _)).line rfl hxl
              obtain ⟨gb, ob, cb, b1, br⟩ := (hvx.below (hd.below _)).line rfl hxl
              obtain ⟨gd, od, cd, d1, dr⟩ := (hvy.below (hd.below _)).line rfl hxl
              have a2 := ar y hyl
              have b2 := br y hyl
              have d2 := dr y hyl
              have hsum := Bp.pref_parts ps x y K (by rw [hpl.out]; exact hKk)
              have hbx := Bp.pref_bd (ps := ps.take K) x y (Bp.fits_val (Hft.out K))
              have hby := Bp.pref_bd (ps := ps.drop K) x y (Bp.fits_val (Hfd.out K))
              obtain ⟨z1, hz1⟩ : ∃ z, Bp.pref ps x y = z := ⟨_, rfl⟩
              obtain ⟨z2, hz2⟩ : ∃ z, Bp.pref (ps.take K) x y = z := ⟨_, rfl⟩
              obtain ⟨z3, hz3⟩ : ∃ z, Bp.pref (ps.drop K) x y = z := ⟨_, rfl⟩
              rw [hz1] at a2 hsum
              rw [hz2] at b2 hsum hbx
              rw [hz3] at d2 hsum hby
              have dd : (z1 != z2 + z3) = false := by rw [hsum]; simp
              have hwr : IntKind.i64.wrap (z2 + z3) = z2 + z3 := IntWalk.i64_in _ (by omega)
              have Hsum := Lib.hid hsum
              clear hsum ar br dr hz1 hz2 hz3
              go_wp2_with fail
              go_quiet (fail)
              go_wp2_with fail
              go_roundw
              case rel => exact ⟨y + 1, by omega, by go_num, hd.drewN _⟩
              case measure => simp [intOf]; omega
            · go_wp2_with fail
              go_roundw
              case rel => exact ⟨x + 1, by omega, by go_num, hd⟩
              case measure => simp [intOf]; omega
        · go_wp2_with fail
          go_ret
          exact ⟨rfl, hB6.trans (hd.below _)⟩
end Go.Proofs.Ytbjkdplimdlfpaa
