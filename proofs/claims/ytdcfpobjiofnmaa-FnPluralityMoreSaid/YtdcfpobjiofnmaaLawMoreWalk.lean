/-
  The walk of FnPluralityMore.
-/
import Derived.Test.YtdcfpobjiofnmaaPilesAdd
import Derived.Test.YtdcfpobjiofnmaaMorePlain
import Derived.Test.YtdcfpobjiofnmaaMargin
import Derived.Test.YtdcfpobjiofnmaaPlurPlain
import Derived.Test.YtdcfpobjiofnmaaDrawLots
namespace Go.Proofs.Ytdcfpobjiofnmaa
set_option linter.unusedVariables false
open Go.RowKit

/-- a literal of one number -/
theorem int_one (w : World) (z : Int) (t : TypeId) : Ints (w.alloc (.cells #[.int .i64 z] t)) (w.alloc (.cells #[.int .i64 z] t)).heap.size (some ⟨w.heap.size, 0, none⟩) 1 [z] :=
  ⟨rfl, fun _ => ⟨_, _, rfl, by simp, fun k hk => by
    have e : k = 0 := by omega
    subst e
    simp⟩⟩
namespace Bp
theorem pmar_bd {ps : List Pile} {lots : List Int} (hok : ok ps lots = true) : 0 ≤ pmar ps lots ∧ pmar ps lots ≤ 1188 := by
  rw [pmar_yes hok]
  have hb := firsts_bd (left := fresh lots.length) (fits_val (ok_fits hok))
  have ht := best_top (firsts ps (fresh lots.length)) lots 1188 (ok_lval hok) (by rw [firsts_len, fresh_len]) hb
  unfold margin
  have h1 := hb (best (firsts ps (fresh lots.length)) lots).toNat
  have h2 := nextTo_bd (firsts ps (fresh lots.length)) (best (firsts ps (fresh lots.length)) lots) 1188 hb (firsts ps (fresh lots.length)).length
  rcases nextTo_is (firsts ps (fresh lots.length)) (best (firsts ps (fresh lots.length)) lots) (firsts ps (fresh lots.length)).length with h3 | ⟨j, hj, _, h3⟩
  · omega
  · have := topN_ge (firsts ps (fresh lots.length)) _ j hj
    omega
end Bp
set_option maxRecDepth 100000 in
set_option maxHeartbeats 4000000 in
theorem lawPluralityMore_any (A : Option Addr) (n c : Nat) (w : World) (h : Bytes w w.heap.size A n) (hn : n ≤ 9223372036854775807) (hc : n ≤ c) :
    Calls Try.prog 7 #[.slice A n c] w fun e w' => e = .returned (.bool true) ∧ Below w.heap.size w w' := by
  by_cases hb : 1048576 < n
  · go_enter Try.func7, Try.ntmps7
    go_wp2_with fail
    go_ret
    exact ⟨rfl, Below.refl _ _⟩
  go_enter Try.func7, Try.ntmps7
  go_wp2_with fail
  refine (drawPluralityWinner_some A n c _ h hn hc).mono ?_
  rintro e w1 ⟨gp, k, cp, Al, m, cl, ps, lots, rfl, hcp, hkp, hcl, hml, hps, hlo, hb1⟩
  have hs1 := hb1.size
  go_wp2_with fail
  refine (iPluralityWinner_any _ k cp Al m cl ps lots _ hps (by omega) hcp hlo (by omega) hcl).mono ?_
  rintro e w2 ⟨rfl, hb2⟩
  have hs2 := hb2.size
  have hps2 := (hps.below hb2).mono hs2
  have hlo2 := (hlo.below hb2).mono hs2
  have hB2 := hb1.trans (hb2.mono hs1)
  go_wp2_with fail
  refine (sPluralityWinner_any _ k cp Al m cl ps lots _ hps2 (by omega) hlo2 (by omega) hcl).mono ?_
  rintro e w3 ⟨rfl, hb3⟩
  have hs3 := hb3.size
  have hps3 := (hps2.below hb3).mono hs3
  have hlo3 := (hlo2.below hb3).mono hs3
  have hB3 := hB2.trans (hb3.mono (by omega))
  clear hps hps2 hlo2 hlo
  cases hok : Bp.ok ps lots
  · rw [Bp.pwin_no hok]
    clear hok
    go_wp2_with fail
    go_ret
    exact ⟨rfl, hB3⟩
  · have hlv := Bp.ok_lval hok
    have hm5 := Bp.lval_n hlv
    obtain ⟨b, hwb, hbl⟩ : ∃ b : Nat, Bp.pwin ps lots = b ∧ b < lots.length := by
      have h1 := Bp.best_range (counts := Bp.firsts ps (Bp.fresh lots.length)) hlv
      rw [← Bp.pwin_yes hok] at h1
      exact ⟨(Bp.pwin ps lots).toNat, by omega, by omega⟩
    rw [hwb]
    have hv := Bp.fits_val (Bp.ok_fits hok)
    have Hok := Lib.hid hok
    have Hw := Lib.hid hwb
    have Hbl := Lib.hid hbl
    have hb5 : b < 5 := by omega
    have hpv := Lib.hid (Bp.pval_one hb5)
    have hbv := Lib.hid (Bp.bval_one (n := 5) (by omega) (b := (b : Int)) (by omega) (by omega))
    have Hv := Lib.hid hv
    have hbm0 : decide ((b : Int) < 0) = false := by simp
    clear hok hwb hv hbl hlv hm5
    go_wp2_with (first
      | (go_at_call 25; with_reducible refine (iBallotText_yes (some ⟨w3.heap.size, 0, none⟩) 1 1 [(b : Int)] _ (int_one _ _ _) (Nat.le_refl _) hbv.out).mono ?_; rintro e w4 ⟨rfl, hb4⟩; have hb34 : Below w3.heap.size w3 w4 := (((Below.refl _ _).alloc (Nat.le_refl _) _).trans (hb4.mono (by simp))); have hs4 := hb34.size)
      | (go_at_call 17; with_reducible refine (iPilesAdd_yes _ k cp ps (Bp.btext [(b : Int)]) 1 _ ((hps3.below hb34).mono hs4) ?_ hcp ?_ Hv.out hpv.out).mono ?_; rotate_left 2))
    · rintro e w5 ⟨A4, n4, c4, qs, rfl, hc4, hn4, hM, -, hp4, hb5'⟩
      have hs5 := hb5'.size
      have hB5 := hB3.trans (hb34.mono (by omega)) |>.trans (hb5'.mono (by omega))
      have hlo5 := (((hlo3.below hb34).mono hs4).below hb5').mono hs5
      have hps5 := (((hps3.below hb34).mono hs4).below hb5').mono hs5
      have HM := Lib.hid hM
      clear hM hlo3 hps3 hb4
      cases hv : Bp.psval qs
      · clear hp4
        go_wp2_with fail
        go_ret
        exact ⟨rfl, hB5⟩
      · rw [hv, if_pos rfl] at hp4
        have hwin := Bp.more_win HM.out Hbl.out hv Hok.out Hw.out
        have hmb := Bp.pmar_bd Hok.out
        have hcall1 := iPluralityWinner_any A4 n4 c4 Al m cl qs lots _ hp4 (by omega) hc4 hlo5 (by omega) hcl
        rw [hwin.1] at hcall1
        have Hw2 := Lib.hid hwin.2
        obtain ⟨M, hM⟩ : ∃ M, Bp.pmar ps lots = M := ⟨_, rfl⟩
        have HM2 := Lib.hid hM
        rw [hM] at hmb
        have hm0 := hmb.1
        have hm1 := hmb.2
        have Hcall1 := Lib.hid hcall1
        have Hp4 := Lib.hid hp4
        have Hlo5 := Lib.hid hlo5
        have Hps5 := Lib.hid hps5
        have hmw : IntKind.i64.wrap (M + 1) = M + 1 := wrap_small _ (by omega) (by omega)
        clear hcall1 hwin hv hM hmb hp4 hlo5 hps5
        go_wp2_with (first
          | (go_at_call 23; refine Hcall1.out.mono ?_; rintro e w6 ⟨rfl, hb6⟩; have hs6 := hb6.size)
          | (go_at_call 26; with_reducible refine (iPluralityMargin_any A4 n4 c4 Al m cl qs lots _ ((Hp4.out.below hb6).mono hs6) (by omega) hc4 ((Hlo5.out.below hb6).mono hs6) (by omega) hcl).mono ?_; rw [Hw2.out, HM2.out]; rintro e w7 ⟨rfl, hb7⟩; have hs7 := hb7.size)
          | (go_at_call 26; with_reducible refine (iPluralityMargin_any _ k cp Al m cl ps lots _ ((((Hps5.out.below hb6).mono hs6).below hb7).mono hs7) (by omega) hcp ((((Hlo5.out.below hb6).mono hs6).below hb7).mono hs7) (by omega) hcl).mono ?_; rw [HM2.out]; rintro e w8 ⟨rfl, hb8⟩))
        go_ret
        exact ⟨ret_bool (by simp), ((hB5.trans (hb6.mono (by omega))).trans (hb7.mono (by omega))).trans (hb8.mono (by omega))⟩
    · omega
    · rw [Bp.btext_size]; simp
end Go.Proofs.Ytdcfpobjiofnmaa
