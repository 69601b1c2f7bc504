/-
  The walk of FnPairCounts.
-/
import Derived.Test.YtbjkdplimdlfpaaLawTables
namespace Go.Proofs.Ytbjkdplimdlfpaa
set_option linter.unusedVariables false
open Go.RowKit

set_option maxRecDepth 100000 in
set_option maxHeartbeats 4000000 in
theorem lawPairCounts_any (A : Option Addr) (n c : Nat) (w : World) (h : Bytes w w.heap.size A n) (hn : n ≤ 9223372036854775807) (hc : n ≤ c) :
    Calls Try.prog 4 #[.slice A n c] w fun e w' => e = .returned (.bool true) ∧ Below w.heap.size w w' := by
  by_cases hb : 1048576 < n
  · go_enter Try.func4, Try.ntmps4
    go_wp2_with fail
    go_ret
    exact ⟨rfl, Below.refl _ _⟩
  go_enter Try.func4, Try.ntmps4
  go_wp2_with fail
  refine (drawPairCounts_some A n c _ h hn hc).mono ?_
  rintro e w1 ⟨gp, k, cp, mi, ps, rfl, hcp, hkp, hm0, hm6, hps, hb1⟩
  have hs1 := hb1.size
  go_wp2_with fail
  refine (iPairCounts_any _ k cp mi ps _ hps (by omega) hcp).mono ?_
  rintro e w2 ⟨A1, n1, c1, rfl, hc1, hn1, hown, hb2⟩
  have hs2 := hb2.size
  have hps2 := (hps.below hb2).mono hs2
  have hB2 := hb1.trans (hb2.mono hs1)
  go_wp2_with fail
  refine (sPairCounts_any _ k cp mi ps _ hps2 (by omega)).mono ?_
  rintro e w3 ⟨A2, n2, c2, rfl, hc2, hn2, hown2, hb3⟩
  have hs3 := hb3.size
  have hps3 := (hps2.below hb3).mono hs3
  have hB3 := hB2.trans (hb3.mono (by omega))
  have hv1 := hown.view
  have hv := (hv1.below hb3).mono hs3
  have hv2 := hown2.view
  clear hps hps2 hown2 hv1 hown
  cases hok : Bp.fits ps mi
  · rw [hok, tres_no rfl] at hv hv2
    have hcall := fun q => sameTable_same _ _ n1 c1 n2 c2 [] _ _ (w3.drewN q) (hv.drewN q) (hv2.drewN q) (by omega) (fun i => by simp)
    have Hcall := Lib.hid hcall
    clear hok hcall
    go_wp2_with fail
    refine (Hcall.out 0).mono ?_
    rintro e w4 ⟨rfl, hd4⟩
    obtain ⟨q4, rfl⟩ := hd4
    go_wp2_with fail
    refine (Hcall.out q4).mono ?_
    rintro e w5 ⟨rfl, hd5⟩
    go_wp2_with fail
    go_ret
    exact ⟨rfl, (hB3.trans (Drawn.below ((Drawn.refl w3).drewN q4) _)).trans (hd5.below _)⟩
  · have hmm := Bp.fits_n hok
    have hpv := Bp.fits_val hok
    obtain ⟨m, rfl⟩ := Int.eq_ofNat_of_zero_le hm0
    have m1 : 1 ≤ m := by omega
    have m5 : m ≤ 5 := by omega
    rw [hok, tres_yes rfl, Int.toNat_natCast] at hv hv2
    have hnn : n1 = m := by rw [← hv.1]; exact Bp.tabs_len _ _
    subst hnn
    have hcall := sameTable_same _ _ n1 c1 n2 c2 _ _ _ w3 hv hv2 (by omega) (fun i => Bp.tabs_short n1 _ i (by omega))
    have Hcall := Lib.hid hcall
    have Hok := Lib.hid hok
    have Hpv := Lib.hid hpv
    clear hok hcall hpv
    go_wp2_with fail
    refine Hcall.out.mono ?_
    rintro e w4 ⟨rfl, hd4⟩
    have hb4 := hd4.below w3.heap.size
    have hs4 := hb4.size
    have hB4 := hB3.trans (hb4.mono (by omega))
    have hps4 := (hps3.below hb4).mono hs4
    have hv4 := (hv.below hb4).mono hs4
    obtain ⟨go, oo, _, _, _, _, hAo, hgo, _⟩ := hv4.at (k := 0) (by omega)
    subst hAo
    clear hv hv2 hps3
    have hpt : Bp.ptotal ps = Bp.psum ps := Bp.ptotal_yes Hpv.out
    have hpb := Bp.psum_bd Hpv.out
    have hsum := fun x y => Bp.pref_sum (ps := ps) x y Hpv.out
    obtain ⟨t, ht⟩ : ∃ t, Bp.psum ps = t := ⟨_, rfl⟩
    simp only [ht] at hsum
    rw [ht] at hpt hpb
    have Hpt := Lib.hid hpt
    have Hsum := Lib.hid hsum
    clear ht hpt hsum
    go_wp2_with fail
    go_loopw [9] (fun i wr => ∃ x : Nat, x ≤ n1 ∧ i = .int .i64 x ∧ Below w4.heap.size w4 wr) (fun i _ => n1 - (intOf i).toNat)
    case atStart => exact ⟨0, Nat.zero_le _, rfl, Below.refl _ _⟩
    case round =>
      obtain ⟨x, hx, rfl, hb⟩ := hrel
      by_cases hxl : x < n1
      · obtain ⟨wo, rfl⟩ : ∃ wo : World, wo = wr := ⟨_, rfl⟩
        go_wp2_with fail
        go_loopw [10] (fun i wi => ∃ y : Nat, y ≤ n1 ∧ i = .int .i64 y ∧ Below w4.heap.size w4 wi) (fun i _ => n1 - (intOf i).toNat)
        case atStart => exact ⟨0, Nat.zero_le _, rfl, hb⟩
        case round =>
          obtain ⟨y, hy, rfl, hb⟩ := hrel
          have hz := hb.size
          by_cases hyl : y < n1
          · have i1 : (0 : Int) ≤ (x : Int) := by omega
            have i2 : (x : Int) < (n1 : Int) := by omega
            have i3 : (0 : Int) ≤ (y : Int) := by omega
            have i4 : (y : Int) < (n1 : Int) := by omega
            have hpsr := (hps4.below hb).mono hz
            obtain ⟨ga, oa, ca, a1, a2, _, _⟩ := (hv4.below hb).get rfl hxl (by unfold Bp.pairs; rw [Bp.tabs_at _ _ hxl, Bp.tab_len]) hyl
            obtain ⟨gb, ob, cb, b1, b2, _, _⟩ := (hv4.below hb).get rfl hyl (by unfold Bp.pairs; rw [Bp.tabs_at _ _ hyl, Bp.tab_len]) hxl
            unfold Bp.pairs at a2 b2
            rw [Bp.tabs_cell _ _ hxl hyl] at a2
            rw [Bp.tabs_cell _ _ hyl hxl] at b2
            have hbd1 := Bp.pref_bd (ps := ps) x y Hpv.out
            have hbd2 := Bp.pref_bd (ps := ps) y x Hpv.out
            have hle := Hsum.out x y
            have hse : x = y → Bp.pref ps x y = 0 := fun e => by subst e; exact Bp.pref_self ps _
            obtain ⟨z1, hz1⟩ : ∃ z, Bp.pref ps x y = z := ⟨_, rfl⟩
            obtain ⟨z2, hz2⟩ : ∃ z, Bp.pref ps y x = z := ⟨_, rfl⟩
            rw [hz1] at a2 hbd1 hle hse
            rw [hz2] at b2 hbd2 hle
            have ka1 := fun x => calm_cell (W := wr) a1 x
            have ka2 := fun x => calm_cell (W := wr) a2 x
            have kb1 := fun x => calm_cell (W := wr) b1 x
            have kb2 := fun x => calm_cell (W := wr) b2 x
            have hwr : IntKind.i64.wrap (z1 + z2) = z1 + z2 := IntWalk.i64_in _ (by omega)
            have d1 : decide (z1 < 0) = false := decide_eq_false (by omega)
            have d2 : decide (t < z1 + z2) = false := decide_eq_false (by omega)
            by_cases hxy : x = y
            · have hz0 := hse hxy
              have d3 : ((x : Int) == (y : Int)) = true := by rw [beq_iff_eq]; omega
              have d4 : (z1 != 0) = false := by rw [hz0]; rfl
              have Hz0 := Lib.hid hz0
              have Hxy := Lib.hid hxy
              clear hz0 hse hxy hz1 hz2
              go_wp2_with fail
              refine wp_region_calm (by kernel_rfl) (by kernel_rfl) ?_
              repeat (go_big_quiet_step ((go_at_call 18; exact calm_call (pilesTotal_val _ k cp ps t Hpt.out _ ((hpsr.below (Calm.ok _)).mono (Calm.ok _).size) (by omega) hcp))))
              refine wpQuiet_nil ?_
              rintro _ ⟨⟨w7, hb7⟩, rfl⟩
              go_wp2_with fail
              go_roundw
              case rel => exact ⟨y + 1, by omega, by go_num, hb.trans (hb7.mono hz)⟩
              case measure => simp [intOf]; omega
            · have d3 : ((x : Int) == (y : Int)) = false := by rw [beq_eq_false_iff_ne]; omega
              have Hxy := Lib.hid hxy
              clear hse hxy hz1 hz2
              go_wp2_with fail
              refine wp_region_calm (by kernel_rfl) (by kernel_rfl) ?_
              repeat (go_big_quiet_step ((go_at_call 18; exact calm_call (pilesTotal_val _ k cp ps t Hpt.out _ ((hpsr.below (Calm.ok _)).mono (Calm.ok _).size) (by omega) hcp))))
              refine wpQuiet_nil ?_
              rintro _ ⟨⟨w7, hb7⟩, rfl⟩
              go_wp2_with fail
              go_roundw
              case rel => exact ⟨y + 1, by omega, by go_num, hb.trans (hb7.mono hz)⟩
              case measure => simp [intOf]; omega
          · go_wp2_with fail
            go_roundw
            case rel => exact ⟨x + 1, by omega, by go_num, hb⟩
            case measure => simp [intOf]; omega
      · go_wp2_with fail
        go_ret
        exact ⟨rfl, hB4.trans (hb.mono (by omega))⟩
end Go.Proofs.Ytbjkdplimdlfpaa
