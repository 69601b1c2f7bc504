/-
  The walk of FnPairWinner.
-/
import Derived.Test.YtbjkdplimdlfpaaLawTables
import Derived.Test.YtbjkdplimdlfpaaPairWin
import Derived.Test.YtbjkdplimdlfpaaSameInts
namespace Go.Proofs.Ytbjkdplimdlfpaa
set_option linter.unusedVariables false
open Go.RowKit

theorem lit_ints (w : World) (z : Int) : Ints (w.alloc (.cells #[.int .i64 z] 3)) (w.heap.size + 1) (some ⟨w.heap.size, 0, none⟩) 1 [z] := ⟨rfl, fun _ => ⟨_, 0, rfl, by omega, fun k hk => by
  obtain rfl : k = 0 := by omega
  simp [go_sem]⟩⟩
set_option maxRecDepth 100000 in
set_option maxHeartbeats 4000000 in
theorem lawPairWinner_any (A : Option Addr) (n c : Nat) (w : World) (h : Bytes w w.heap.size A n) (hn : n ≤ 9223372036854775807) (hc : n ≤ c) :
    Calls Try.prog 11 #[.slice A n c] w fun e w' => e = .returned (.bool true) ∧ Below w.heap.size w w' := by
  by_cases hb : 1048576 < n
  · go_enter Try.func11, Try.ntmps11
    go_wp2_with fail
    go_ret
    exact ⟨rfl, Below.refl _ _⟩
  go_enter Try.func11, Try.ntmps11
  go_wp2_with fail
  refine (drawPairWinner_some A n c _ h hn hc).mono ?_
  rintro e w1 ⟨gp, k, cp, mi, ps, rfl, hcp, hkp, hm0, hm6, hps, hb1⟩
  have hs1 := hb1.size
  go_wp2_with fail
  refine (iPairWinner_any _ k cp mi ps _ hps (by omega) hcp).mono ?_
  rintro e w2 ⟨rfl, hb2⟩
  have hs2 := hb2.size
  have hps2 := (hps.below hb2).mono hs2
  have hB2 := hb1.trans (hb2.mono hs1)
  go_wp2_with fail
  refine (sPairWinner_any _ k cp mi ps _ hps2 (by omega)).mono ?_
  rintro e w4 ⟨rfl, hb3⟩
  have hs4 := hb3.size
  have hps4 := (hps2.below hb3).mono hs4
  have hB4 := hB2.trans (hb3.mono (by omega))
  have hcall := iPairCounts_any _ k cp mi ps _ hps4 (by omega) hcp
  clear hps hps2
  cases hok : Bp.fits ps mi
  · rw [Bp.pwinner_no hok]
    clear hok hcall
    go_wp2_with fail
    go_ret
    exact ⟨rfl, hB4⟩
  · skip
    have hmm := Bp.fits_n hok
    have hpv := Bp.fits_val hok
    rw [Bp.pwinner_yes hok]
    rw [hok] at hcall
    obtain ⟨m, rfl⟩ := Int.eq_ofNat_of_zero_le hm0
    rw [Int.toNat_natCast] at hcall ⊢
    have m1 : 1 ≤ m := by omega
    have m5 : m ≤ 5 := by omega
    have Hok := Lib.hid hok
    have Hpv := Lib.hid hpv
    have Hcall2 := Lib.hid hcall
    clear hok hpv hcall
    rcases Bp.pairWin_cases ps m with ⟨x, hx, hw, hwb, htp⟩ | ⟨hw, _⟩
    · rw [hw]
      have hwin := (Bp.wins_iff ps m x).1 hwb
      have hbest := Bp.win_best ps Hpv.out hx hwb
      have hct := iPairTop_any (some ⟨gp, 0, none⟩) k cp (m : Int) ps
      have hcb := iPairBest_any (some ⟨gp, 0, none⟩) k cp (m : Int) ps
      rw [Hok.out, Int.toNat_natCast, htp] at hct
      rw [Hok.out, Int.toNat_natCast, hbest] at hcb
      have d0 : decide ((x : Int) < 0) = false := by simp
      have d00 : decide ((m : Int) ≤ (x : Int)) = false := by simp; omega
      have Hwin := Lib.hid hwin
      have Hct := Lib.hid hct
      have Hcb := Lib.hid hcb
      clear hw hwin hbest hct hcb hwb htp
      go_wp2_with fail
      refine Hcall2.out.mono ?_
      rintro e w5 ⟨A3, n3, c3, rfl, hc3, hn3, hown5, hb5⟩
      have hs5 := hb5.size
      have hB5 := hB4.trans (hb5.mono (by omega))
      rw [tres_yes rfl] at hown5
      have hm5 := hown5.view
      have hnn3 : n3 = m := by rw [← hm5.1]; exact Bp.tabs_len _ _
      subst hnn3
      obtain ⟨gm, om, _, _, _, _, hAm, hgm, _⟩ := hm5.at (k := 0) (by omega)
      subst hAm
      have hps5 := (hps4.below hb5).mono hs5
      clear hown5 hb5
      unfold Bp.pairs at hm5
      go_wp2_with fail
      go_loopw [9] (fun i wr => ∃ y : Nat, y ≤ n3 ∧ i = .int .i64 y ∧ Drawn w5 wr) (fun i _ => n3 - (intOf i).toNat)
      case atStart => exact ⟨0, Nat.zero_le _, rfl, Drawn.refl _⟩
      case round =>
        obtain ⟨y, hy, rfl, hd⟩ := hrel
        by_cases hyl : y < n3
        · have i1 : (0 : Int) ≤ (x : Int) := by omega
          have i2 : (x : Int) < (n3 : Int) := by omega
          have i3 : (0 : Int) ≤ (y : Int) := by omega
          have i4 : (y : Int) < (n3 : Int) := by omega
          obtain ⟨ga, oa, ca, a1, ar⟩ := (hm5.below (hd.below _)).line rfl hx
          obtain ⟨gb, ob, cb, b1, br⟩ := (hm5.below (hd.below _)).line rfl hyl
          have a2 := ar y hyl
          have b2 := br x hx
          have hlt := fun hne => Hwin.out y hyl hne
          obtain ⟨v1, hv1⟩ : ∃ z, Bp.pref ps x y = z := ⟨_, rfl⟩
          obtain ⟨v2, hv2⟩ : ∃ z, Bp.pref ps y x = z := ⟨_, rfl⟩
          rw [hv1] at a2
          rw [hv2] at b2
          simp only [hv1, hv2] at hlt
          clear ar br hv1 hv2
          by_cases hyx : y = x
          · have d1 : ((y : Int) != (x : Int)) = false := by simp; omega
            have Hyx := Lib.hid hyx
            clear hyx hlt
            go_wp2_with fail
            go_quiet (fail)
            go_wp2_with fail
            go_roundw
            case rel => exact ⟨y + 1, by omega, by go_num, hd.drewN _⟩
            case measure => simp [intOf]; omega
          · have d1 : ((y : Int) != (x : Int)) = true := by simp; omega
            have h2 := hlt hyx
            have d2 : decide (v1 ≤ v2) = false := decide_eq_false (by omega)
            have Hyx := Lib.hid hyx
            clear hyx hlt h2
            go_wp2_with fail
            go_quiet (fail)
            go_wp2_with fail
            go_roundw
            case rel => exact ⟨y + 1, by omega, by go_num, hd.drewN _⟩
            case measure => simp [intOf]; omega
        · have hb6 := hd.below w5.heap.size
          have hs6 := hb6.size
          have hB6 := hB5.trans (hb6.mono (by omega))
          have hps6 := (hps5.below hb6).mono hs6
          have hct := Hct.out wr hps6 (by omega) hcp
          have Hct2 := Lib.hid hct
          clear hct
          go_wp2_with fail
          refine Hct2.out.mono ?_
          rintro e w7 ⟨A7, n7, c7, rfl, hc7, hn7, own7, hb7⟩
          have hs7 := hb7.size
          have hB7 := hB6.trans (hb7.mono (by omega))
          have hps7 := (hps6.below hb7).mono hs7
          rw [cres_yes rfl] at own7
          have hi7 := own7.ints
          have hal7 : ∀ o : Obj, Below w7.heap.size w7 (w7.alloc o) := fun o => (Below.refl _ _).alloc (Nat.le_refl _) o
          have hcall := sameInts_any A7 _ n7 c7 1 1 [(x : Int)] [(x : Int)] _ _ _ (hi7.below (hal7 (.cells #[.int .i64 (x : Int)] 3))) (lit_ints w7 (x : Int)) (by omega)
          rw [show decide ([(x : Int)] = [(x : Int)]) = true by simp] at hcall
          have Hcall8 := Lib.hid hcall
          clear hcall own7 hi7
          go_wp2_with fail
          refine Hcall8.out.mono ?_
          rintro e w8 ⟨rfl, hd8⟩
          have hb8 : Below w7.heap.size w7 w8 := (hal7 _).trans (hd8.below _)
          have hs8 := hb8.size
          have hB8 := hB7.trans (hb8.mono (by omega))
          have hps8 := (hps7.below hb8).mono hs8
          have hcb := Hcb.out w8 hps8 (by omega) hcp
          have Hcb2 := Lib.hid hcb
          clear hcb
          go_wp2_with fail
          refine Hcb2.out.mono ?_
          rintro e w9 ⟨A9, n9, c9, rfl, hc9, hn9, own9, hb9⟩
          have hs9 := hb9.size
          have hB9 := hB8.trans (hb9.mono (by omega))
          rw [cres_yes rfl] at own9
          have hi9 := own9.ints
          have hal9 : ∀ o : Obj, Below w9.heap.size w9 (w9.alloc o) := fun o => (Below.refl _ _).alloc (Nat.le_refl _) o
          have hcall := sameInts_any A9 _ n9 c9 1 1 [(x : Int)] [(x : Int)] _ _ _ (hi9.below (hal9 (.cells #[.int .i64 (x : Int)] 3))) (lit_ints w9 (x : Int)) (by omega)
          rw [show decide ([(x : Int)] = [(x : Int)]) = true by simp] at hcall
          have Hcall10 := Lib.hid hcall
          clear hcall own9 hi9
          go_wp2_with fail
          refine Hcall10.out.mono ?_
          rintro e w10 ⟨rfl, hd10⟩
          go_wp2_with fail
          go_ret
          exact ⟨rfl, hB9.trans (((hal9 _).trans (hd10.below _)).mono (by omega))⟩
    · rw [hw]
      clear hw
      go_wp2_with fail
      go_ret
      exact ⟨rfl, hB4⟩
end Go.Proofs.Ytbjkdplimdlfpaa
