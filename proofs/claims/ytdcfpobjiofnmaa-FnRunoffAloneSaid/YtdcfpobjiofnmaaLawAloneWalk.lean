/-
  The walk of FnRunoffAlone.
-/
import Derived.Test.YtdcfpobjiofnmaaPilesAdd
import Derived.Test.YtdcfpobjiofnmaaAlonePlain
import Derived.Test.YtdcfpobjiofnmaaRunoffWinS
import Derived.Test.YtdcfpobjiofnmaaRunoffLawPlain
import Derived.Test.YtdcfpobjiofnmaaDrawLots
namespace Go.Proofs.Ytdcfpobjiofnmaa
set_option linter.unusedVariables false
open Go.RowKit

set_option maxRecDepth 100000 in
set_option maxHeartbeats 4000000 in
theorem lawRunoffAlone_any (A : Option Addr) (n c : Nat) (w : World) (h : Bytes w w.heap.size A n) (hn : n ≤ 9223372036854775807) (hc : n ≤ c) :
    Calls Try.prog 4 #[.slice A n c] w fun e w' => e = .returned (.bool true) ∧ Below w.heap.size w w' := by
  by_cases hb : 1048576 < n
  · go_enter Try.func4, Try.ntmps4
    go_wp2_with fail
    go_ret
    exact ⟨rfl, Below.refl _ _⟩
  go_enter Try.func4, Try.ntmps4
  go_wp2_with fail
  refine (drawRunoffWinner_some A n c _ h hn hc).mono ?_
  rintro e w1 ⟨gp, k, cp, Al, m, cl, ps, lots, rfl, hcp, hkp, hcl, hml, hps, hlo, hb1⟩
  have hs1 := hb1.size
  go_wp2_with fail
  refine (iRunoffWinner_any _ k cp Al m cl ps lots _ hps (by omega) hcp hlo (by omega) hcl).mono ?_
  rintro e w2 ⟨rfl, hb2⟩
  have hs2 := hb2.size
  have hps2 := (hps.below hb2).mono hs2
  have hlo2 := (hlo.below hb2).mono hs2
  have hB2 := hb1.trans (hb2.mono hs1)
  go_wp2_with fail
  refine (sRunoffWinner_any _ k cp Al m cl ps lots _ hps2 (by omega) hlo2 (by omega) hcl).mono ?_
  rintro e w3 ⟨rfl, hb3⟩
  have hs3 := hb3.size
  have hps3 := (hps2.below hb3).mono hs3
  have hlo3 := (hlo2.below hb3).mono hs3
  have hB3 := hB2.trans (hb3.mono (by omega))
  clear hps hps2 hlo2 hlo
  cases hok : Bp.ok ps lots
  · rw [Bp.rwinner_no hok]
    clear hok
    go_wp2_with fail
    go_ret
    exact ⟨rfl, hB3⟩
  · obtain ⟨b, hwb, hbl, -, -⟩ := Bp.rwin_facts ps lots (Bp.ok_lval hok) (Bp.ok_fits hok)
    have hw := Bp.rwinner_yes hok
    rw [hwb] at hw
    rw [hw]
    have hv := Bp.fits_val (Bp.ok_fits hok)
    have Hok := Lib.hid hok
    have Hw := Lib.hid hw
    have hcall := Lib.hid (iPilesAdd_yes _ k cp ps ByteArray.empty 1 _ hps3 (by omega) hcp (by simp) hv Bp.pval_empty)
    have hbm0 : decide ((b : Int) < 0) = false := by simp
    clear hok hw hwb hv hbl
    go_wp2_with fail
    refine hcall.out.mono ?_
    rintro e w4 ⟨A4, n4, c4, qs, rfl, hc4, hn4, hM, -, hp4, hb4⟩
    have hs4 := hb4.size
    have hB4 := hB3.trans (hb4.mono (by omega))
    have hlo4 := (hlo3.below hb4).mono hs4
    have HM := Lib.hid hM
    clear hcall hM
    cases hv : Bp.psval qs
    · clear hp4
      go_wp2_with fail
      go_ret
      exact ⟨rfl, hB4⟩
    · rw [hv, if_pos rfl] at hp4
      have hwin := Bp.alone_win HM.out hv Hok.out
      rw [Hw.out] at hwin
      have hcall2 := iRunoffWinner_any A4 n4 c4 Al m cl qs lots _ hp4 (by omega) hc4 hlo4 (by omega) hcl
      rw [hwin] at hcall2
      have Hcall2 := Lib.hid hcall2
      clear hcall2 hwin hv
      go_wp2_with (go_at_call 15; refine Hcall2.out.mono ?_; rintro e w5 ⟨rfl, hb5⟩)
      go_ret
      exact ⟨ret_bool (by simp), hB4.trans (hb5.mono (by omega))⟩
end Go.Proofs.Ytdcfpobjiofnmaa
