/-
  The walk of FnPairBestPaths.
-/
import Derived.Test.YtbjkdplimdlfpaaLawTables
import Derived.Test.YtbjkdplimdlfpaaBest
import Derived.Test.YtbjkdplimdlfpaaSameInts
namespace Go.Proofs.Ytbjkdplimdlfpaa
set_option linter.unusedVariables false
open Go.RowKit

theorem Bp.has_picks (p : Nat → Bool) (n x : Nat) (hx : x < n) : Bp.has (Bp.picks p n) (x : Int) = p x := by
  unfold Bp.has
  cases h : p x
  · rw [decide_eq_false_iff_not, Bp.picks_mem]
    rintro ⟨j, _, e, hp⟩
    have : x = j := by omega
    subst this
    rw [h] at hp; cases hp
  · rw [decide_eq_true_eq, Bp.picks_mem]
    exact ⟨x, hx, rfl, h⟩
set_option maxRecDepth 100000 in
set_option maxHeartbeats 400000 in
theorem hasInt_any (A : Option Addr) (n c : Nat) (x : Int) (zs : List Int) (B : Nat) (w : World) (h : Ints w B A n zs) (hn : n ≤ 1048576) :
    Calls Try.prog 26 #[.slice A n c, .int .i64 x] w fun e w' => e = .returned (.bool (Bp.has zs x)) ∧ w = w' := by
  have hl := Lib.hid h.1
  go_enter Try.func26, Try.ntmps26
  go_wp2
  go_loop [5] (fun i => ∃ k : Nat, k ≤ n ∧ i = .int .i64 k ∧ Hid (∀ j, j < k → zs.getD j 0 ≠ x)) (fun i => n - (intOf i).toNat)
  case atStart => exact ⟨0, Nat.zero_le _, rfl, fun j hj => absurd hj (by omega)⟩
  case round =>
    obtain ⟨k, hk, rfl, hq⟩ := hrel
    by_cases hlt : k < n
    · obtain ⟨g, o, z, rfl, _, hc, hz⟩ := h.at hlt
      have i1 : (0 : Int) ≤ (k : Int) := by omega
      have i2 : (k : Int) < (n : Int) := by omega
      by_cases hx : z = x
      · have hb : (z == x) = true := by simpa using hx
        have Hx := Lib.hid hx
        clear hx
        go_wp2
        go_ret
        exact ⟨ret_bool (Bp.has_true zs x k (by rw [hl.out]; exact hlt) (by rw [hz.out, Hx.out])).symm, rfl⟩
      · have hb : (z == x) = false := by simpa using hx
        have Hx := Lib.hid hx
        clear hx
        go_wp2
        go_round
        case rel => exact ⟨k + 1, by omega, by go_num, fun j hj => by
          by_cases hj' : j = k
          · subst hj'; rw [hz.out]; exact Hx.out
          · exact hq.out j (by omega)⟩
        case measure => simp [intOf]; omega
    · go_wp2
      go_ret
      exact ⟨ret_bool (Bp.has_false zs x (fun j hj => hq.out j (by rw [hl.out] at hj; omega))).symm, rfl⟩
theorem hasInt_val (A : Option Addr) (n c : Nat) (x : Int) (zs : List Int) (v : Bool) (hv : Bp.has zs x = v) (B : Nat) (w : World) (h : Ints w B A n zs) (hn : n ≤ 1048576) :
    Calls Try.prog 26 #[.slice A n c, .int .i64 x] w fun e w' => e = .returned (.bool v) ∧ w = w' := by
  subst hv; exact hasInt_any A n c x zs B w h hn
set_option maxRecDepth 100000 in
set_option maxHeartbeats 4000000 in
theorem lawPairBestPaths_any (A : Option Addr) (n c : Nat) (w : World) (h : Bytes w w.heap.size A n) (hn : n ≤ 9223372036854775807) (hc : n ≤ c) :
    Calls Try.prog 7 #[.slice A n c] w fun e w' => e = .returned (.bool true) ∧ Below w.heap.size w w' := by
  by_cases hb : 1048576 < n
  · go_enter Try.func7, Try.ntmps7
    go_wp2_with fail
    go_ret
    exact ⟨rfl, Below.refl _ _⟩
  go_enter Try.func7, Try.ntmps7
  go_wp2_with fail
  refine (drawPairBest_some A n c _ h hn hc).mono ?_
  rintro e w1 ⟨gp, k, cp, mi, ps, rfl, hcp, hkp, hm0, hm6, hps, hb1⟩
  have hs1 := hb1.size
  go_wp2_with fail
  refine (iPairBest_any _ k cp mi ps _ hps (by omega) hcp).mono ?_
  rintro e w2 ⟨A1, n1, c1, rfl, hc1, hn1, hown, hb2⟩
  have hs2 := hb2.size
  have hps2 := (hps.below hb2).mono hs2
  have hB2 := hb1.trans (hb2.mono hs1)
  go_wp2_with fail
  refine (sPairBest_any _ k cp mi ps _ hps2 (by omega)).mono ?_
  rintro e w3 ⟨A2, n2, c2, rfl, hc2, hn2, hown2, hb3⟩
  have hs3 := hb3.size
  have hps3 := (hps2.below hb3).mono hs3
  have hB3 := hB2.trans (hb3.mono (by omega))
  have hv1 := hown.ints
  have hv := (hv1.below hb3).mono hs3
  have hv2 := hown2.ints
  have hnn : n2 = n1 := by rw [← hv.1, hv2.1]
  subst hnn
  clear hps hps2 hown2 hv1 hown
  have hcall := fun q => sameInts_any _ _ n2 c1 n2 c2 _ _ _ _ (w3.drewN q) (hv.below (below_drewN (Below.refl _ _) q)) (hv2.below (below_drewN (Below.refl _ _) q)) (by omega)
  simp only [decide_true] at hcall
  have Hcall := Lib.hid hcall
  clear hcall
  by_cases h0 : n2 ≤ 0
  · have hd0 : ((n2 : Int) == 0) = true := by simp; omega
    go_wp2_with fail
    refine (Hcall.out 0).mono ?_
    rintro e w4 ⟨rfl, hd4⟩
    obtain ⟨q4, rfl⟩ := hd4
    go_wp2_with fail
    refine (Hcall.out q4).mono ?_
    rintro e w5 ⟨rfl, hd5⟩
    go_wp2_with fail
    go_ret
    exact ⟨rfl, (hB3.trans (Drawn.below ((Drawn.refl w3).drewN q4) _)).trans (hd5.below _)⟩
  · have hd0 : ((n2 : Int) == 0) = false := by simp; omega
    cases hok : Bp.fits ps mi
    · rw [hok, cres_no rfl] at hv
      have := hv.1
      simp at this
      omega
    have hmm := Bp.fits_n hok
    have hpv := Bp.fits_val hok
    obtain ⟨m, rfl⟩ := Int.eq_ofNat_of_zero_le hm0
    have m1 : 1 ≤ m := by omega
    have m5 : m ≤ 5 := by omega
    rw [hok, cres_yes rfl, Int.toNat_natCast] at hv
    have Hok := Lib.hid hok
    have Hpv := Lib.hid hpv
    clear hok hpv
    go_wp2_with fail
    refine (Hcall.out 0).mono ?_
    rintro e w4 ⟨rfl, hd4⟩
    have hb4 : Below w3.heap.size w3 w4 := hd4.below w3.heap.size
    have hs4 := hb4.size
    have hB4 := hB3.trans (hb4.mono (by omega))
    have hps4 := (hps3.below hb4).mono hs4
    have hv4 := (hv.below hb4).mono hs4
    clear hv hv2 hps3
    unfold Bp.bests at hv4
    have hcall := iPairPaths_any _ k cp (m : Int) ps _ hps4 (by omega) hcp
    rw [Hok.out, Int.toNat_natCast] at hcall
    have Hcall2 := Lib.hid hcall
    clear hcall Hcall
    go_wp2_with fail
    refine Hcall2.out.mono ?_
    rintro e w5 ⟨A3, n3, c3, rfl, hc3, hn3, hown5, hb5⟩
    have hs5 := hb5.size
    have hB5 := hB4.trans (hb5.mono (by omega))
    have hv5 := (hv4.below hb5).mono hs5
    rw [tres_yes rfl] at hown5
    have hm5 := hown5.view
    have hnn3 : n3 = m := by rw [← hm5.1]; exact Bp.tabs_len _ _
    subst hnn3
    obtain ⟨gm, om, _, _, _, _, hAm, hgm, _⟩ := hm5.at (k := 0) (by omega)
    subst hAm
    clear hv4 hown5 hb5
    unfold Bp.paths at hm5
    go_wp2_with fail
    go_loopw [9] (fun i wr => ∃ x : Nat, x ≤ n3 ∧ i = .int .i64 x ∧ Drawn w5 wr) (fun i _ => n3 - (intOf i).toNat)
    case atStart => exact ⟨0, Nat.zero_le _, rfl, Drawn.refl _⟩
    case round =>
      obtain ⟨x, hx, rfl, hd⟩ := hrel
      by_cases hxl : x < n3
      · obtain ⟨wo, rfl⟩ : ∃ wo : World, wo = wr := ⟨_, rfl⟩
        have i1 : (0 : Int) ≤ (x : Int) := by omega
        have i2 : (x : Int) < (n3 : Int) := by omega
        go_wp2_with fail
        go_loopw [10, 11] (fun b i wi => ∃ y : Nat, y ≤ n3 ∧ i = .int .i64 y ∧ b = .bool (Bp.allTo (fun j => decide (Bp.pathF ps n3 j x ≤ Bp.pathF ps n3 x j)) y) ∧ Drawn w5 wi) (fun _ i _ => n3 - (intOf i).toNat)
        case atStart => exact ⟨0, Nat.zero_le _, rfl, rfl, hd⟩
        case round =>
          obtain ⟨y, hy, rfl, rfl, hd⟩ := hrel
          by_cases hyl : y < n3
          · have i3 : (0 : Int) ≤ (y : Int) := by omega
            have i4 : (y : Int) < (n3 : Int) := by omega
            obtain ⟨ga, oa, ca, a1, ar⟩ := (hm5.below (hd.below _)).line rfl hxl
            obtain ⟨gb, ob, cb, b1, br⟩ := (hm5.below (hd.below _)).line rfl hyl
            have a2 := ar y hyl
            have b2 := br x hxl
            have Hn := Lib.hid (show Bp.allTo (fun j => decide (Bp.pathF ps n3 j x ≤ Bp.pathF ps n3 x j)) (y + 1) = (Bp.allTo (fun j => decide (Bp.pathF ps n3 j x ≤ Bp.pathF ps n3 x j)) y && decide (Bp.pathF ps n3 y x ≤ Bp.pathF ps n3 x y)) from rfl)
            obtain ⟨s, hs⟩ : ∃ s, Bp.allTo (fun j => decide (Bp.pathF ps n3 j x ≤ Bp.pathF ps n3 x j)) y = s := ⟨_, rfl⟩
            obtain ⟨v1, hv1⟩ : ∃ z, Bp.pathF ps n3 x y = z := ⟨_, rfl⟩
            obtain ⟨v2, hv2⟩ : ∃ z, Bp.pathF ps n3 y x = z := ⟨_, rfl⟩
            rw [hs, hv1, hv2] at Hn
            rw [hv1] at a2
            rw [hv2] at b2
            rw [hs]
            clear ar br hs hv1 hv2
            cases s
            · go_wp2_with fail
              go_quiet (fail)
              go_wp2_with fail
              go_roundw
              case rel => exact ⟨y + 1, by omega, by go_num, by rw [Hn.out]; rfl, hd.drewN _⟩
              case measure => simp [intOf]; omega
            · go_wp2_with fail
              go_quiet (fail)
              go_wp2_with fail
              go_roundw
              case rel => exact ⟨y + 1, by omega, by go_num, by rw [Hn.out, Bool.true_and], hd.drewN _⟩
              case measure => simp [intOf]; omega
          · have hym : y = n3 := by omega
            obtain ⟨s, hs⟩ : ∃ s, Bp.allTo (fun j => decide (Bp.pathF ps n3 j x ≤ Bp.pathF ps n3 x j)) y = s := ⟨_, rfl⟩
            have hs2 : Bp.isBest (Bp.pathF ps n3) n3 x = s := by rw [← hs, hym]; rfl
            have hcall := hasInt_val A1 n2 c1 (x : Int) _ s (by rw [Bp.has_picks _ _ _ hxl, hs2]) _ wr (hv5.below (hd.below _)) (by omega)
            have Hcall3 := Lib.hid hcall
            rw [hs]
            clear hs hs2 hym hcall
            cases s
            all_goals
              go_wp2_with (go_at_call 26; refine Hcall3.out.mono ?_; rintro e w' ⟨rfl, rfl⟩)
              go_roundw
              case rel => exact ⟨x + 1, by omega, by go_num, hd⟩
              case measure => simp [intOf]; omega
      · go_wp2_with fail
        go_ret
        exact ⟨rfl, hB5.trans (hd.below _)⟩
end Go.Proofs.Ytbjkdplimdlfpaa
