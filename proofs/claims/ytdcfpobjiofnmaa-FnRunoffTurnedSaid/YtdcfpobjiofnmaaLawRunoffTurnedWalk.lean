/-
  The walk of FnRunoffTurned.
-/
import Derived.Test.YtdcfpobjiofnmaaLawTurned
import Derived.Test.YtdcfpobjiofnmaaTurnRounds
import Derived.Test.YtdcfpobjiofnmaaRunoffWinS
import Derived.Test.YtdcfpobjiofnmaaDrawLots
namespace Go.Proofs.Ytdcfpobjiofnmaa
set_option linter.unusedVariables false
open Go.RowKit

theorem turn_rwinner {ps qs : List Bp.Pile} {lots : List Int} {x y : Int} (hok : Bp.ok ps lots = true) (hx : 0 ≤ x ∧ x < lots.length) (hy : 0 ≤ y ∧ y < lots.length) (h : Bp.Merged (ps.map (Bp.tp x y)) qs) (hq : Bp.psval qs = true) :
    Bp.rwinner qs (lots.map (Bp.sw x y)) = Bp.sw x y (Bp.rwinner ps lots) := by
  rw [Bp.rwinner_yes (Bp.turn_ok hok hx hy h hq), Bp.rwinner_yes hok]
  exact Bp.turn_rwin (Bp.ok_lval hok) (Bp.ok_fits hok) hx hy h

set_option maxRecDepth 100000 in
set_option maxHeartbeats 4000000 in
theorem lawRunoffTurned_any (A : Option Addr) (n c : Nat) (A2 : Option Addr) (n2 c2 : Nat) (w : World) (h : Bytes w w.heap.size A n) (hn : n ≤ 9223372036854775807) (hc : n ≤ c) (_h2 : Bytes w w.heap.size A2 n2) (hn2 : n2 ≤ 9223372036854775807) (hc2 : n2 ≤ c2) :
    Calls Try.prog 5 #[.slice A n c, .slice A2 n2 c2] w fun e w' => e = .returned (.bool true) ∧ Below w.heap.size w w' := by
  by_cases hb : 1048576 < n
  · go_enter Try.func5, Try.ntmps5
    go_wp2_with fail
    go_ret
    exact ⟨rfl, Below.refl _ _⟩
  by_cases hb' : 1048576 < n2
  · go_enter Try.func5, Try.ntmps5
    go_wp2_with fail
    go_ret
    exact ⟨rfl, Below.refl _ _⟩
  go_enter Try.func5, Try.ntmps5
  go_wp2_with fail
  refine (drawRunoffWinner_some A n c _ h hn hc).mono ?_
  rintro e w1 ⟨gp, k, cp, Al, m, cl, ps, lots, rfl, hcp, hkp, hcl, hml, hps, hlo, hb1⟩
  have hs1 := hb1.size
  go_wp2_with fail
  refine (iRunoffWinner_any _ k cp Al m cl ps lots _ hps (by omega) hcp hlo (by omega) hcl).mono ?_
  rintro e w2 ⟨rfl, hb2⟩
  have hs2 := hb2.size
  have hps2 := (hps.below hb2).mono hs2
  have hlo2 := (hlo.below hb2).mono hs2
  have hB2 := hb1.trans (hb2.mono hs1)
  go_wp2_with fail
  refine (sRunoffWinner_any _ k cp Al m cl ps lots _ hps2 (by omega) hlo2 (by omega) hcl).mono ?_
  rintro e w3 ⟨rfl, hb3⟩
  have hs3 := hb3.size
  have hps3 := (hps2.below hb3).mono hs3
  have hlo3 := (hlo2.below hb3).mono hs3
  have hB3 := hB2.trans (hb3.mono (by omega))
  have hl := hlo.1
  clear hps hps2 hlo2 hlo
  cases hok : Bp.ok ps lots
  · rw [Bp.rwinner_no hok]
    clear hok hl
    go_wp2_with fail
    go_ret
    exact ⟨rfl, hB3⟩
  · have hlv := Bp.ok_lval hok
    have hm5 := Bp.lval_n hlv
    rw [hl] at hm5
    obtain ⟨b, hwb, hbl⟩ : ∃ b : Nat, Bp.rwinner ps lots = b ∧ b < lots.length := by
      have h1 := Bp.best_range (counts := Bp.cutTo ((Bp.rounds ps lots).getD ((Bp.rounds ps lots).length - 1) default).1 (Bp.rounds ps lots) ((Bp.rounds ps lots).length - 1)) hlv
      rw [show Bp.best _ lots = Bp.rwin ps lots from rfl, ← Bp.rwinner_yes hok] at h1
      exact ⟨(Bp.rwinner ps lots).toNat, by omega, by omega⟩
    rw [hwb]
    have hv := Bp.fits_val (Bp.ok_fits hok)
    have Hok := Lib.hid hok
    have Hw := Lib.hid hwb
    have Hl := Lib.hid hl
    have Hv := Lib.hid hv
    have hbm0 : decide ((b : Int) < 0) = false := by simp
    clear hok hwb hv hbl hlv hl
    go_wp2_with fail
    have hx := Int.emod_nonneg (n2 : Int) (show (m : Int) ≠ 0 by omega)
    have hx' := Int.emod_lt_of_pos (n2 : Int) (show (0 : Int) < (m : Int) by omega)
    have hy := Int.emod_nonneg ((n2 : Int) / 7) (show (m : Int) ≠ 0 by omega)
    have hy' := Int.emod_lt_of_pos ((n2 : Int) / 7) (show (0 : Int) < (m : Int) by omega)
    obtain ⟨x, hxe⟩ : ∃ x : Int, (n2 : Int) % (m : Int) = x := ⟨_, rfl⟩
    obtain ⟨y, hye⟩ : ∃ y : Int, (n2 : Int) / 7 % (m : Int) = y := ⟨_, rfl⟩
    rw [hxe] at hx hx' ⊢
    rw [hye] at hy hy' ⊢
    clear hxe hye
    refine (iPilesTurn_yes _ k cp ps x y _ hps3 (by omega) hcp Hv.out hx (by omega) hy (by omega)).mono ?_
    rintro e w4 ⟨A4, n4, c4, qs, rfl, hc4, hn4, hM, hord, hp4, hb4⟩
    have hq := Bp.turn_psval Hv.out ⟨hx, by omega⟩ ⟨hy, by omega⟩ hM hord
    rw [hq, if_pos rfl] at hp4
    rw [hq]
    have hs4 := hb4.size
    have hB4 := hB3.trans (hb4.mono (by omega))
    have hlo4 := (hlo3.below hb4).mono hs4
    have hwin := turn_rwinner Hok.out (x := x) (y := y) (by rw [Hl.out]; exact ⟨hx, hx'⟩) (by rw [Hl.out]; exact ⟨hy, hy'⟩) hM hq
    rw [Hw.out] at hwin
    have Hwin := Lib.hid hwin
    have Hp4 := Lib.hid hp4
    have Hlo4 := Lib.hid hlo4
    clear hM hord hq hwin hp4 hlo4 hlo3 hps3
    go_wp2_with (first
      | (go_at_call 18; with_reducible refine (turnedAll_any Al m cl lots x y _ Hlo4.out (by omega) hcl).mono ?_; rintro e w5 ⟨A5, c5, rfl, hc5, hown5, hb5⟩; have hs5 := hb5.size)
      | (go_at_call 15; with_reducible refine (iRunoffWinner_any A4 n4 c4 A5 m c5 qs (lots.map (Bp.sw x y)) _ ((Hp4.out.below hb5).mono hs5) (by omega) hc4 hown5.ints (by omega) hc5).mono ?_; rw [Hwin.out]; rintro e w6 ⟨rfl, hb6⟩)
      | (go_at_call 13; with_reducible refine (turned_any (b : Int) x y _).mono ?_; rintro e w7 ⟨rfl, rfl⟩))
    go_ret
    exact ⟨ret_bool (by simp), (hB4.trans (hb5.mono (by omega))).trans (hb6.mono (by omega))⟩
end Go.Proofs.Ytdcfpobjiofnmaa
