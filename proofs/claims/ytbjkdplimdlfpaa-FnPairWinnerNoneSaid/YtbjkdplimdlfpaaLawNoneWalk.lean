/-
  The walk of FnPairWinnerNone.
-/
import Derived.Test.YtbjkdplimdlfpaaLawTables
import Derived.Test.YtbjkdplimdlfpaaPairWin
import Derived.Test.YtbjkdplimdlfpaaSameInts
namespace Go.Proofs.Ytbjkdplimdlfpaa
set_option linter.unusedVariables false
open Go.RowKit

set_option maxRecDepth 100000 in
set_option maxHeartbeats 4000000 in
theorem lawPairWinnerNone_any (A : Option Addr) (n c : Nat) (w : World) (h : Bytes w w.heap.size A n) (hn : n ≤ 9223372036854775807) (hc : n ≤ c) :
    Calls Try.prog 8 #[.slice A n c] w fun e w' => e = .returned (.bool true) ∧ Below w.heap.size w w' := by
  by_cases hb : 1048576 < n
  · go_enter Try.func8, Try.ntmps8
    go_wp2_with fail
    go_ret
    exact ⟨rfl, Below.refl _ _⟩
  go_enter Try.func8, Try.ntmps8
  go_wp2_with fail
  refine (drawPairWinner_some A n c _ h hn hc).mono ?_
  rintro e w1 ⟨gp, k, cp, mi, ps, rfl, hcp, hkp, hm0, hm6, hps, hb1⟩
  have hs1 := hb1.size
  go_wp2_with fail
  refine (iPairWinner_any _ k cp mi ps _ hps (by omega) hcp).mono ?_
  rintro e w2 ⟨rfl, hb2⟩
  have hs2 := hb2.size
  have hps2 := (hps.below hb2).mono hs2
  have hB2 := hb1.trans (hb2.mono hs1)
  go_wp2_with fail
  refine (sPairWinner_any _ k cp mi ps _ hps2 (by omega)).mono ?_
  rintro e w4 ⟨rfl, hb3⟩
  have hs4 := hb3.size
  have hps4 := (hps2.below hb3).mono hs4
  have hB4 := hB2.trans (hb3.mono (by omega))
  have hcall := iPairCounts_any _ k cp mi ps _ hps4 (by omega) hcp
  clear hps hps2
  cases hok : Bp.fits ps mi
  · rw [Bp.pwinner_no hok]
    rw [hok] at hcall
    have Hcall2 := Lib.hid hcall
    clear hok hcall
    go_wp2_with fail
    refine Hcall2.out.mono ?_
    rintro e w5 ⟨A3, n3, c3, rfl, hc3, hn3, hown5, hb5⟩
    go_wp2_with fail
    go_ret
    exact ⟨rfl, hB4.trans (hb5.mono (by omega))⟩
  · skip
    have hmm := Bp.fits_n hok
    have hpv := Bp.fits_val hok
    rw [Bp.pwinner_yes hok]
    rw [hok] at hcall
    obtain ⟨m, rfl⟩ := Int.eq_ofNat_of_zero_le hm0
    rw [Int.toNat_natCast] at hcall ⊢
    have m1 : 1 ≤ m := by omega
    have m5 : m ≤ 5 := by omega
    have Hok := Lib.hid hok
    have Hpv := Lib.hid hpv
    have Hcall2 := Lib.hid hcall
    clear hok hpv hcall
    rcases Bp.pairWin_cases ps m with ⟨x, hx, hw, _, _⟩ | ⟨hw, hnone⟩
    · rw [hw]
      have d0 : decide ((0 : Int) ≤ (x : Int)) = true := by simp
      clear hw
      go_wp2_with fail
      refine Hcall2.out.mono ?_
      rintro e w5 ⟨A3, n3, c3, rfl, hc3, hn3, hown5, hb5⟩
      go_wp2_with fail
      go_ret
      exact ⟨rfl, hB4.trans (hb5.mono (by omega))⟩
    · rw [hw]
      have Hnone := Lib.hid hnone
      clear hw hnone
      go_wp2_with fail
      refine Hcall2.out.mono ?_
      rintro e w5 ⟨A3, n3, c3, rfl, hc3, hn3, hown5, hb5⟩
      have hs5 := hb5.size
      have hB5 := hB4.trans (hb5.mono (by omega))
      rw [tres_yes rfl] at hown5
      have hm5 := hown5.view
      have hnn3 : n3 = m := by rw [← hm5.1]; exact Bp.tabs_len _ _
      subst hnn3
      obtain ⟨gm, om, _, _, _, _, hAm, hgm, _⟩ := hm5.at (k := 0) (by omega)
      subst hAm
      have hps5 := (hps4.below hb5).mono hs5
      clear hown5 hb5
      unfold Bp.pairs at hm5
      go_wp2_with fail
      go_loopw [9] (fun i wr => ∃ x : Nat, x ≤ n3 ∧ i = .int .i64 x ∧ Drawn w5 wr) (fun i _ => n3 - (intOf i).toNat)
      case atStart => exact ⟨0, Nat.zero_le _, rfl, Drawn.refl _⟩
      case round =>
        obtain ⟨x, hx, rfl, hd⟩ := hrel
        by_cases hxl : x < n3
        · obtain ⟨wo, rfl⟩ : ∃ wo : World, wo = wr := ⟨_, rfl⟩
          have i1 : (0 : Int) ≤ (x : Int) := by omega
          have i2 : (x : Int) < (n3 : Int) := by omega
          go_wp2_with fail
          go_loopw [10, 11] (fun sv i wi => ∃ (y : Nat) (s : Bool), y ≤ n3 ∧ i = .int .i64 y ∧ sv = .bool s ∧ Hid (s = true ∨ ∀ j, j < y → ¬ (j ≠ x ∧ Bp.pref ps x j ≤ Bp.pref ps j x)) ∧ Drawn w5 wi) (fun _ i _ => n3 - (intOf i).toNat)
          case atStart => exact ⟨0, false, Nat.zero_le _, rfl, rfl, .inr (fun j hj => absurd hj (by omega)), hd⟩
          case round =>
            obtain ⟨y, s, hy, rfl, rfl, hs, hd⟩ := hrel
            by_cases hyl : y < n3
            · have i3 : (0 : Int) ≤ (y : Int) := by omega
              have i4 : (y : Int) < (n3 : Int) := by omega
              obtain ⟨ga, oa, ca, a1, ar⟩ := (hm5.below (hd.below _)).line rfl hxl
              obtain ⟨gb, ob, cb, b1, br⟩ := (hm5.below (hd.below _)).line rfl hyl
              have a2 := ar y hyl
              have b2 := br x hxl
              have hnx : ∀ b : Bool, (s = true ∨ (b = true ↔ (y ≠ x ∧ Bp.pref ps x y ≤ Bp.pref ps y x))) → ((s || b) = true ∨ ∀ j, j < y + 1 → ¬ (j ≠ x ∧ Bp.pref ps x j ≤ Bp.pref ps j x)) := fun b hb => by
                cases s
                · have hno := hs.out.resolve_left (by simp)
                  have hb' := hb.resolve_left (by simp)
                  cases b
                  · refine .inr fun j hj => ?_
                    by_cases e : j = y
                    · subst e
                      intro hh
                      have := hb'.2 hh
                      cases this
                    · exact hno j (by omega)
                  · exact .inl rfl
                · exact .inl rfl
              obtain ⟨v1, hv1⟩ : ∃ z, Bp.pref ps x y = z := ⟨_, rfl⟩
              obtain ⟨v2, hv2⟩ : ∃ z, Bp.pref ps y x = z := ⟨_, rfl⟩
              rw [hv1] at a2 hnx
              rw [hv2] at b2 hnx
              have Hnx := Lib.hid hnx
              clear ar br hv1 hv2 hnx hs
              cases s
              · by_cases hyx : y = x
                · have d1 : ((y : Int) != (x : Int)) = false := by simp; omega
                  have Hyx := Lib.hid hyx
                  clear hyx
                  go_wp2_with fail
                  go_quiet (fail)
                  go_wp2_with fail
                  go_roundw
                  case rel => exact ⟨y + 1, false, by omega, by go_num, rfl, Hnx.out false (.inr ⟨(fun e => by cases e), fun e => absurd Hyx.out e.1⟩), hd.drewN _⟩
                  case measure => simp [intOf]; omega
                · have d1 : ((y : Int) != (x : Int)) = true := by simp; omega
                  have Hyx := Lib.hid hyx
                  clear hyx
                  go_wp2_with fail
                  go_quiet (fail)
                  go_wp2_with fail
                  go_roundw
                  case rel => exact ⟨y + 1, decide (v1 ≤ v2), by omega, by go_num, rfl, Hnx.out (decide (v1 ≤ v2)) (.inr ⟨fun e => ⟨Hyx.out, of_decide_eq_true e⟩, fun e => decide_eq_true e.2⟩), hd.drewN _⟩
                  case measure => simp [intOf]; omega
              · go_wp2_with fail
                go_quiet (fail)
                go_wp2_with fail
                go_roundw
                case rel => exact ⟨y + 1, true, by omega, by go_num, rfl, .inl rfl, hd.drewN _⟩
                case measure => simp [intOf]; omega
            · have hst : s = true := by
                rcases hs.out with h1 | h1
                · exact h1
                · exfalso
                  have h2 := Hnone.out x hxl
                  have h3 : Bp.winsB ps n3 x = true := (Bp.wins_iff ps n3 x).2 fun j hj hne => by
                    have := h1 j (by omega)
                    by_cases hle : Bp.pref ps x j ≤ Bp.pref ps j x
                    · exact absurd ⟨hne, hle⟩ this
                    · omega
                  rw [h2] at h3
                  cases h3
              subst hst
              go_wp2_with fail
              go_roundw
              case rel => exact ⟨x + 1, by omega, by go_num, hd⟩
              case measure => simp [intOf]; omega
        · go_wp2_with fail
          go_ret
          exact ⟨rfl, hB5.trans (hd.below _)⟩
end Go.Proofs.Ytbjkdplimdlfpaa
