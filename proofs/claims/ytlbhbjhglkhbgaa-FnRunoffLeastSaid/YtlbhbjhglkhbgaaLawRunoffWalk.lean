/-
  The walk of FnRunoffWinner.
-/
import Derived.Test.YtlbhbjhglkhbgaaLawDepthWalk
import Derived.Test.YtlbhbjhglkhbgaaLawRounds
import Derived.Test.YtlbhbjhglkhbgaaRunoffWinS
import Derived.Test.YtlbhbjhglkhbgaaRunoffLawPlain
namespace Go.Proofs.Ytlbhbjhglkhbgaa
set_option linter.unusedVariables false
open Go.RowKit

set_option maxRecDepth 100000 in
set_option maxHeartbeats 4000000 in
theorem lawRunoffWinner_any (A : Option Addr) (n c : Nat) (w : World) (h : Bytes w w.heap.size A n) (hn : n ≤ 9223372036854775807) (hc : n ≤ c) :
    Calls Try.prog 12 #[.slice A n c] w fun e w' => e = .returned (.bool true) ∧ Below w.heap.size w w' := by
  by_cases hb : 1048576 < n
  · go_enter Try.func12, Try.ntmps12
    go_wp2_with fail
    go_ret
    exact ⟨rfl, Below.refl _ _⟩
  go_enter Try.func12, Try.ntmps12
  go_wp2_with fail
  refine (drawRunoffWinner_some A n c _ h hn hc).mono ?_
  rintro e w1 ⟨gp, k, cp, Al, m, cl, ps, lots, rfl, hcp, hkp, hcl, hml, hps, hlo, hb1⟩
  have hs1 := hb1.size
  go_wp2_with fail
  refine (iRunoffWinner_any _ k cp Al m cl ps lots _ hps (by omega) hcp hlo (by omega) hcl).mono ?_
  rintro e w2 ⟨rfl, hb2⟩
  have hs2 := hb2.size
  have hps2 := (hps.below hb2).mono hs2
  have hlo2 := (hlo.below hb2).mono hs2
  have hB2 := hb1.trans (hb2.mono hs1)
  go_wp2_with fail
  refine (sRunoffWinner_any _ k cp Al m cl ps lots _ hps2 (by omega) hlo2 (by omega) hcl).mono ?_
  rintro e w3 ⟨rfl, hb3⟩
  have hs3 := hb3.size
  have hps3 := (hps2.below hb3).mono hs3
  have hlo3 := (hlo2.below hb3).mono hs3
  have hB3 := hB2.trans (hb3.mono (by omega))
  have hl := hlo.1
  have hcall := iRunoffRounds_any _ k cp Al m cl ps lots _ hps3 (by omega) hcp hlo3 (by omega) hcl
  clear hps hps2 hlo2 hlo
  cases hok : Bp.ok ps lots
  · rw [Bp.rwinner_no hok]
    clear hok hl hcall
    go_wp2_with fail
    go_ret
    exact ⟨rfl, hB3⟩
  · have hlv := Bp.ok_lval hok
    have hf := Bp.ok_fits hok
    have hm5 := Bp.lval_n hlv
    have hw := Bp.rwinner_yes hok
    obtain ⟨b, hwb, hbl, htop, hout⟩ := Bp.rwin_facts ps lots hlv hf
    have hro := Bp.rounds_ok ps lots hlv
    have hlen0 := fun k hk => Bp.counts_len (ps := ps) hlv (k := k) hk
    rw [hw, hwb]
    rw [hok] at hcall
    rw [hl] at hm5 hbl htop hlen0
    obtain ⟨rs, hrs⟩ : ∃ rs, Bp.rounds ps lots = rs := ⟨_, rfl⟩
    rw [hrs] at hcall htop hout hro hlen0
    have hr1 := hro.1
    have hbm0 : decide ((b : Int) < 0) = false := by simp
    have hbm1 : decide ((b : Int) < (m : Int)) = true := by simp; omega
    have Hcall := Lib.hid hcall
    have Htop := Lib.hid htop
    have Hout := Lib.hid hout
    have Hlen0 := Lib.hid hlen0
    clear hok hl hcall hlv hf hw hwb htop hout hro hlen0 hrs
    go_wp2_with fail
    refine Hcall.out.mono ?_
    rintro e w4 ⟨A1, n1, c1, rfl, hc1, hn1, hown, hb4⟩
    rw [rres_yes rfl] at hown
    have hs4 := hb4.size
    have hB4 := hB3.trans (hb4.mono (by omega))
    have hlen := hown.len
    have hv := hown.view
    obtain ⟨p, hp⟩ : ∃ p, n1 = p + 1 := ⟨n1 - 1, by omega⟩
    obtain ⟨g, o, A3, m3, c3, zs, out, rfl, hg, hc3, hmc3, hz3, hco3, hrp⟩ := hv.at (k := p) (by omega)
    have hm3 : m3 = m := by
      have h2 := Hlen0.out p (by omega)
      rw [hrp.out] at h2
      have h3 := hz3.1
      simp only at h2
      omega
    subst hm3
    have htz : zs.getD b 0 = Bp.topN zs m3 := by
      have h2 := Htop.out
      rw [hlen, show n1 - 1 = p by omega, hrp.out] at h2
      exact h2
    obtain ⟨g4, o4, y, rfl, _, hy, ey⟩ := hz3.at (k := b) hbl
    have hty : Bp.topN zs m3 = y := by rw [← htz]; exact ey.out
    have Hty := Lib.hid hty
    have Hlen := Lib.hid hlen
    have e1 : (n1 : Int) - 1 = (p : Int) := by omega
    have e2 : IntKind.i64.wrap (p : Int) = (p : Int) := wrap_small _ (by omega) (by omega)
    have i1 : (0 : Int) ≤ (p : Int) := by omega
    have i2 : (p : Int) < (n1 : Int) := by omega
    have i3 : (0 : Int) ≤ (b : Int) := by omega
    have i4 : (b : Int) < (m3 : Int) := by omega
    have Hp := Lib.hid hp
    have hn0 : ((n1 : Int) == 0) = false := by rw [beq_eq_false_iff_ne]; omega
    clear hown hlen htz hty hp
    go_wp2_with fail
    go_loop [9] (fun i => ∃ j : Nat, j ≤ n1 ∧ i = .int .i64 j) (fun i => n1 - (intOf i).toNat)
    case atStart => exact ⟨0, Nat.zero_le _, rfl⟩
    case round =>
      obtain ⟨j, hj, rfl⟩ := hrel
      by_cases hlt : j < n1
      · obtain ⟨g', o', A5, m5', c5, zs5, out5, hA, _, hcr, _, _, hcr2, hrr⟩ := hv.at (k := j) hlt
        injection hA with hA; injection hA with e3 e4
        subst e3; subst e4
        have hne := Hout.out j (by rw [Hlen.out]; exact hlt)
        rw [hrr.out] at hne
        have hne' : (out5 == (b : Int)) = false := by rw [beq_eq_false_iff_ne]; exact hne
        have i5 : (0 : Int) ≤ (j : Int) := by omega
        have i6 : (j : Int) < (n1 : Int) := by omega
        clear hne
        go_wp2_with fail
        go_round
        case rel => exact ⟨j + 1, by omega, by go_num⟩
        case measure => simp [intOf]; omega
      · go_wp2_with fail
        go_quiet ((go_at_call 26; exact quiet_left (most_val _ m3 c3 zs y Hty.out _ _ (hz3.drewN _) (by omega))))
        go_wp2_with fail
        go_ret
        exact ⟨rfl, hB4.trans (Drawn.below (by first | exact Drawn.refl _ | exact (Drawn.refl _).drewN _) _)⟩
end Go.Proofs.Ytlbhbjhglkhbgaa
