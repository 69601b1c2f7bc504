/-
  The walk of FnPluralityMargin.
-/
import Derived.Test.YtlbhbjhglkhbgaaLawPlurWalk
namespace Go.Proofs.Ytlbhbjhglkhbgaa
set_option linter.unusedVariables false
open Go.RowKit

set_option maxRecDepth 100000 in
set_option maxHeartbeats 4000000 in
theorem lawPluralityMargin_any (A : Option Addr) (n c : Nat) (w : World) (h : Bytes w w.heap.size A n) (hn : n ≤ 9223372036854775807) (hc : n ≤ c) :
    Calls Try.prog 4 #[.slice A n c] w fun e w' => e = .returned (.bool true) ∧ Below w.heap.size w w' := by
  by_cases hb : 1048576 < n
  · go_enter Try.func4, Try.ntmps4
    go_wp2_with fail
    go_ret
    exact ⟨rfl, Below.refl _ _⟩
  obtain ⟨i0, hi0, hz0, hz1, hz2⟩ := info_parts bool_info
  go_enter Try.func4, Try.ntmps4
  go_wp2_with fail
  refine (drawPluralityMargin_some A n c _ h hn hc).mono ?_
  rintro e w1 ⟨gp, k, cp, Al, m, cl, ps, lots, rfl, hcp, hkp, hcl, hml, hps, hlo, hb1⟩
  have hs1 := hb1.size
  go_wp2_with fail
  refine (iPluralityMargin_any _ k cp Al m cl ps lots _ hps (by omega) hcp hlo (by omega) hcl).mono ?_
  rintro e w2 ⟨rfl, hb2⟩
  have hs2 := hb2.size
  have hps2 := (hps.below hb2).mono hs2
  have hlo2 := (hlo.below hb2).mono hs2
  have hB2 := hb1.trans (hb2.mono hs1)
  go_wp2_with fail
  refine (sPluralityMargin_any _ k cp Al m cl ps lots _ hps2 (by omega) hlo2 (by omega) hcl).mono ?_
  rintro e w3 ⟨rfl, hb3⟩
  have hs3 := hb3.size
  have hps3 := (hps2.below hb3).mono hs3
  have hlo3 := (hlo2.below hb3).mono hs3
  have hB3 := hB2.trans (hb3.mono (by omega))
  have hl := hlo.1
  have Hl := Lib.hid hl
  clear hps hlo hps2 hlo2
  cases hok : Bp.ok ps lots
  · have hw := Bp.pmar_no hok
    rw [hw]
    clear hok hl hw
    go_wp2_with fail
    go_ret
    exact ⟨rfl, hB3⟩
  · have hw := Bp.pmar_yes hok
    have hpw := Bp.pwin_yes hok
    have hlv := Bp.ok_lval hok
    have hf := Bp.ok_fits hok
    have hm5 := Bp.lval_n hlv
    rw [hl] at hm5 hf
    obtain ⟨hm1, hm5⟩ := hm5
    have hbd : Bp.Bd (Bp.firsts ps (Bp.fresh lots.length)) 1188 := Bp.firsts_bd (Bp.fits_val (Bp.ok_fits hok))
    have hfl : (Bp.firsts ps (Bp.fresh lots.length)).length = lots.length := by rw [Bp.firsts_len, Bp.fresh_len]
    have hbr := Bp.best_range (counts := Bp.firsts ps (Bp.fresh lots.length)) hlv
    have hsome := Bp.some_end (Bp.firsts ps (Bp.fresh lots.length)) (Bp.best (Bp.firsts ps (Bp.fresh lots.length)) lots) 1188 hbd hbr.1 (by rw [hfl]; exact hbr.2)
    have hnx := fun j hj => Bp.nextTo_ge (Bp.firsts ps (Bp.fresh lots.length)) (Bp.best (Bp.firsts ps (Bp.fresh lots.length)) lots) lots.length j hj
    have hnb := Bp.nextTo_bd (Bp.firsts ps (Bp.fresh lots.length)) (Bp.best (Bp.firsts ps (Bp.fresh lots.length)) lots) 1188 hbd lots.length
    unfold Bp.margin at hw
    have hnle : Bp.nextTo (Bp.firsts ps (Bp.fresh lots.length)) (Bp.best (Bp.firsts ps (Bp.fresh lots.length)) lots) lots.length ≤ (Bp.firsts ps (Bp.fresh lots.length)).getD (Bp.best (Bp.firsts ps (Bp.fresh lots.length)) lots).toNat 0 := by
      obtain ⟨p, hp, hbp, ha1, _⟩ := Bp.best_spec (Bp.firsts ps (Bp.fresh lots.length)) lots (by have := Bp.lval_n hlv; omega)
      rcases Bp.nextTo_is (Bp.firsts ps (Bp.fresh lots.length)) (Bp.best (Bp.firsts ps (Bp.fresh lots.length)) lots) lots.length with e | ⟨j, hj, _, e⟩
      · rw [e]; exact (hbd _).1
      · rw [e, hbp]
        obtain ⟨i, hi, e2⟩ := List.getElem_of_mem (Bp.lval_all hlv j hj)
        have h3 := ha1 i hi
        rw [Bp.getD_get _ _ hi, e2, Int.toNat_natCast] at h3
        exact h3
    rw [hfl] at hw hsome
    rw [hw]
    rw [hl] at hbd hbr hsome hnx hnb hnle hpw ⊢
    obtain ⟨Z, hZ⟩ : ∃ Z, Bp.firsts ps (Bp.fresh m) = Z := ⟨_, rfl⟩
    rw [hZ] at hbd hbr hsome hnx hnb hnle hpw ⊢
    obtain ⟨b, hbb⟩ : ∃ b, Bp.best Z lots = b := ⟨_, rfl⟩
    rw [hbb] at hbr hsome hnx hnb hnle hpw ⊢
    obtain ⟨bn, rfl⟩ := Int.eq_ofNat_of_zero_le hbr.1
    rw [Int.toNat_natCast] at hsome hnle ⊢
    have hbm : bn < m := by omega
    obtain ⟨zb, hzb⟩ : ∃ zb, Z.getD bn 0 = zb := ⟨_, rfl⟩
    rw [hzb] at hsome hnle ⊢
    obtain ⟨nx, hnxx⟩ : ∃ nx, Bp.nextTo Z bn m = nx := ⟨_, rfl⟩
    rw [hnxx] at hsome hnx hnb hnle ⊢
    obtain ⟨q, hq⟩ : ∃ q, zb - nx = q := ⟨_, rfl⟩
    rw [hq] at hsome ⊢
    have hq0 : 0 ≤ q := by omega
    have hzbb := hbd.nth bn
    rw [hzb] at hzbb
    have hbm0 : decide ((bn : Int) < 0) = false := by simp
    have hbm1 : decide ((m : Int) ≤ (bn : Int)) = false := by simp; omega
    have hbm2 : decide (m ≤ bn) = false := by simp; omega
    have hqd : decide (q < 0) = false := by simp; omega
    obtain ⟨s0, hs0⟩ : ∃ s0, (decide (m = 1) && (q == zb)) = s0 := ⟨_, rfl⟩
    rw [hs0] at hsome
    have HZ := Lib.hid hZ
    have Hf := Lib.hid hf
    have Hbd := Lib.hid hbd
    have Hzb := Lib.hid hzb
    have Hq := Lib.hid hq
    have Hs0 := Lib.hid hs0
    have Hsome := Lib.hid hsome
    have Hnx := Lib.hid hnx
    have Hpw := Lib.hid hpw
    clear hok hl hw hlv hf hbd hZ hbb hbr hzb hq hs0 hsome hnx hnxx hpw hfl
    go_wp2_with (at_make; refine wpList_make_full _ rfl (.tmp 39) (.tmp 39) 30 rfl _ 4 i0 _ 1 Try.underlying30 hi0 hz0 hz1 .i64 .i64 m m m rfl rfl rfl rfl (by rw [hz2]; omega) (by unfold maxLen; omega) (Nat.le_refl _) ?_; intro w4 hown4 hg4)
    have own4 := madeB_own hown4
    have hb4 : Below w3.heap.size w3 w4 := (Below.refl _ _).grown hg4 (Nat.le_refl _) (by simp)
    have hs4 := hb4.size
    have hB4 := hB3.trans (hb4.mono (by omega))
    have hps4 := (hps3.below hb4).mono hs4
    have hlo4 := (hlo3.below hb4).mono hs4
    clear hown4 hg4
    have hcall := iFirstCounts_any _ k cp _ m m ps (Bp.fresh m) _ hps4 (by omega) hcp (fresh_bools own4) (by omega) (Nat.le_refl _)
    rw [show (Bp.fresh m).length = m from Bp.fresh_len m, Hf.out] at hcall
    refine hcall.mono ?_
    rintro e w5 ⟨Ac, nc, cc, rfl, hcc, hnc, own5, hb5⟩
    have hs5 := hb5.size
    have hB5 := hB4.trans (hb5.mono (by omega))
    rw [cres_yes rfl, HZ.out] at own5
    have hnm : nc = m := by
      have e1 := own5.len
      rw [← HZ.out, Bp.firsts_len, Bp.fresh_len] at e1
      omega
    subst hnm
    have hlo5 := (hlo4.below hb5).mono hs5
    have hps5 := (hps4.below hb5).mono hs5
    clear own4 hcall hps3 hps4 hlo3 hlo4
    go_wp2_with fail
    have hcall := iPluralityWinner_any _ k cp Al nc cl ps lots _ hps5 (by omega) hcp hlo5 (by omega) hcl
    rw [Hpw.out] at hcall
    refine hcall.mono ?_
    rintro e w6 ⟨rfl, hb6⟩
    have hs6 := hb6.size
    have hB6 := hB5.trans (hb6.mono (by omega))
    have hi := (own5.keep hb6).ints
    clear own5 hcall
    obtain ⟨g3, o3, y, rfl, _, hy, ey⟩ := hi.at hbm
    have hyb : y = zb := by rw [← ey.out, Hzb.out]
    subst hyb
    have i3 : (0 : Int) ≤ (bn : Int) := by omega
    have i4 : (bn : Int) < (nc : Int) := by omega
    have Hst : Hid (s0 = (decide (nc = 1) && (q == y))) := Hs0.out.symm
    have hcase : Hid ((nc = 1 ∧ (q == y) = true ∧ s0 = true) ∨ (nc = 1 ∧ (q == y) = false ∧ s0 = false) ∨ (¬ nc = 1 ∧ s0 = false)) := by
      have e := Hst.out
      by_cases h1 : nc = 1
      · rw [decide_eq_true h1, Bool.true_and] at e
        cases hqy : (q == y)
        · exact .inr (.inl ⟨h1, rfl, e.trans hqy⟩)
        · exact .inl ⟨h1, rfl, e.trans hqy⟩
      · rw [decide_eq_false h1, Bool.false_and] at e
        exact .inr (.inr ⟨h1, e⟩)
    have Hwin : Hid (∀ j x, j < nc → Z.getD j 0 = x → ¬ j = bn → ¬ y - x < q) := fun j x hj hx hne hlt => by
      have h1 := Hnx.out j hj (by omega)
      rw [hx] at h1
      have h2 := Hq.out
      omega
    rcases hcase.out with ⟨h1, h2, h3⟩ | ⟨h1, h2, h3⟩ | ⟨h1, h3⟩
    · have d1 : ((nc : Int) == 1) = true := by simp; omega
      have H3 := Lib.hid h3
      have H1 := Lib.hid h1
      clear h1 h3
      go_wp2_with fail
      go_loopw [10, 11] (fun s i wr => ∃ j : Nat, j ≤ nc ∧ i = .int .i64 j ∧ s = .bool (Bp.someTo Z bn q s0 j) ∧ Drawn w6 wr) (fun _ i _ => nc - (intOf i).toNat)
      case atStart => exact ⟨0, Nat.zero_le _, rfl, by rw [Bp.someTo, H3.out], Drawn.refl _⟩
      case round =>
        obtain ⟨j, hj, rfl, rfl, hd⟩ := hrel
        have Hs := Lib.hid (show Bp.someTo Z bn q s0 (j + 1) = (Bp.someTo Z bn q s0 j || (((j : Int) != bn) && (Z.getD (bn : Int).toNat 0 - Z.getD j 0 == q))) from rfl)
        have Hse := Lib.hid (show j = nc → Bp.someTo Z bn q s0 j = true from fun e => by rw [e]; exact Hsome.out)
        obtain ⟨sv, hsv⟩ : ∃ sv, Bp.someTo Z bn q s0 j = sv := ⟨_, rfl⟩
        rw [hsv]
        have Hsv := Lib.hid hsv
        clear hsv
        have hbw := hd.below w6.heap.size
        by_cases hlt : j < nc
        · obtain ⟨g2, o2, x, hA, _, hx, ex⟩ := (hi.below hbw).at hlt
          injection hA with hA
          injection hA with e1 e2
          subst e1; subst e2
          have hyw : wr.cell? ⟨g3, o3 + bn, none⟩ = some (.int .i64 y) := (hbw.cell (lt_of_cell hy)).trans hy
          have hxb := Hbd.out.nth j
          rw [ex.out] at hxb
          have hwr : IntKind.i64.wrap (y - x) = y - x := IntWalk.i64_in _ (by omega)
          have i1 : (0 : Int) ≤ (j : Int) := by omega
          have i2 : (j : Int) < (nc : Int) := by omega
          by_cases hjb : j = bn
          · have d2 : ((j : Int) != (bn : Int)) = false := by simp; omega
            have D2 := Lib.hid d2
            have Hjb := Lib.hid hjb
            clear hjb
            cases sv
            all_goals
              go_wp2_with fail
              go_quiet (fail)
              go_wp2_with fail
              go_quiet (fail)
              go_wp2_with fail
              go_roundw
              case rel => exact ⟨j + 1, by omega, by go_num, by rw [Hs.out, Hsv.out, D2.out]; rfl, hd.drewN _⟩
              case measure => simp [intOf]; omega
          · have d2 : ((j : Int) != (bn : Int)) = true := by simp; omega
            have d3 := Hwin.out j x hlt ex.out hjb
            have d4 : decide (y - x < q) = false := decide_eq_false (show ¬ y - x < q by omega)
            have D2 := Lib.hid d2
            have Hjb := Lib.hid hjb
            clear hjb
            cases sv
            · cases hv : (y - x == q)
              all_goals
                have Hv := Lib.hid hv
                go_wp2_with fail
                go_quiet (fail)
                go_wp2_with fail
                go_quiet (fail)
                go_wp2_with fail
                go_roundw
                case rel => exact ⟨j + 1, by omega, by go_num, by rw [Hs.out, Hsv.out, D2.out, Int.toNat_natCast, ey.out, ex.out, Hv.out]; rfl, hd.drewN _⟩
                case measure => simp [intOf]; omega
            · go_wp2_with fail
              go_quiet (fail)
              go_wp2_with fail
              go_quiet (fail)
              go_wp2_with fail
              go_roundw
              case rel => exact ⟨j + 1, by omega, by go_num, by rw [Hs.out, Hsv.out]; rfl, hd.drewN _⟩
              case measure => simp [intOf]; omega
        · have hjn : j = nc := by omega
          have hst : sv = true := by rw [← Hsv.out]; exact Hse.out hjn
          subst hst
          clear hjn
          go_wp2_with fail
          go_ret
          exact ⟨rfl, hB6.trans (hd.below _)⟩
    · have d1 : ((nc : Int) == 1) = true := by simp; omega
      have H3 := Lib.hid h3
      have H1 := Lib.hid h1
      clear h1 h3
      go_wp2_with fail
      go_loopw [10, 11] (fun s i wr => ∃ j : Nat, j ≤ nc ∧ i = .int .i64 j ∧ s = .bool (Bp.someTo Z bn q s0 j) ∧ Drawn w6 wr) (fun _ i _ => nc - (intOf i).toNat)
      case atStart => exact ⟨0, Nat.zero_le _, rfl, by rw [Bp.someTo, H3.out], Drawn.refl _⟩
      case round =>
        obtain ⟨j, hj, rfl, rfl, hd⟩ := hrel
        have Hs := Lib.hid (show Bp.someTo Z bn q s0 (j + 1) = (Bp.someTo Z bn q s0 j || (((j : Int) != bn) && (Z.getD (bn : Int).toNat 0 - Z.getD j 0 == q))) from rfl)
        have Hse := Lib.hid (show j = nc → Bp.someTo Z bn q s0 j = true from fun e => by rw [e]; exact Hsome.out)
        obtain ⟨sv, hsv⟩ : ∃ sv, Bp.someTo Z bn q s0 j = sv := ⟨_, rfl⟩
        rw [hsv]
        have Hsv := Lib.hid hsv
        clear hsv
        have hbw := hd.below w6.heap.size
        by_cases hlt : j < nc
        · obtain ⟨g2, o2, x, hA, _, hx, ex⟩ := (hi.below hbw).at hlt
          injection hA with hA
          injection hA with e1 e2
          subst e1; subst e2
          have hyw : wr.cell? ⟨g3, o3 + bn, none⟩ = some (.int .i64 y) := (hbw.cell (lt_of_cell hy)).trans hy
          have hxb := Hbd.out.nth j
          rw [ex.out] at hxb
          have hwr : IntKind.i64.wrap (y - x) = y - x := IntWalk.i64_in _ (by omega)
          have i1 : (0 : Int) ≤ (j : Int) := by omega
          have i2 : (j : Int) < (nc : Int) := by omega
          by_cases hjb : j = bn
          · have d2 : ((j : Int) != (bn : Int)) = false := by simp; omega
            have D2 := Lib.hid d2
            have Hjb := Lib.hid hjb
            clear hjb
            cases sv
            all_goals
              go_wp2_with fail
              go_quiet (fail)
              go_wp2_with fail
              go_quiet (fail)
              go_wp2_with fail
              go_roundw
              case rel => exact ⟨j + 1, by omega, by go_num, by rw [Hs.out, Hsv.out, D2.out]; rfl, hd.drewN _⟩
              case measure => simp [intOf]; omega
          · have d2 : ((j : Int) != (bn : Int)) = true := by simp; omega
            have d3 := Hwin.out j x hlt ex.out hjb
            have d4 : decide (y - x < q) = false := decide_eq_false (show ¬ y - x < q by omega)
            have D2 := Lib.hid d2
            have Hjb := Lib.hid hjb
            clear hjb
            cases sv
            · cases hv : (y - x == q)
              all_goals
                have Hv := Lib.hid hv
                go_wp2_with fail
                go_quiet (fail)
                go_wp2_with fail
                go_quiet (fail)
                go_wp2_with fail
                go_roundw
                case rel => exact ⟨j + 1, by omega, by go_num, by rw [Hs.out, Hsv.out, D2.out, Int.toNat_natCast, ey.out, ex.out, Hv.out]; rfl, hd.drewN _⟩
                case measure => simp [intOf]; omega
            · go_wp2_with fail
              go_quiet (fail)
              go_wp2_with fail
              go_quiet (fail)
              go_wp2_with fail
              go_roundw
              case rel => exact ⟨j + 1, by omega, by go_num, by rw [Hs.out, Hsv.out]; rfl, hd.drewN _⟩
              case measure => simp [intOf]; omega
        · have hjn : j = nc := by omega
          have hst : sv = true := by rw [← Hsv.out]; exact Hse.out hjn
          subst hst
          clear hjn
          go_wp2_with fail
          go_ret
          exact ⟨rfl, hB6.trans (hd.below _)⟩
    · have d1 : ((nc : Int) == 1) = false := by simp; omega
      have H3 := Lib.hid h3
      have H1 := Lib.hid h1
      clear h1 h3
      go_wp2_with fail
      go_loopw [10, 11] (fun s i wr => ∃ j : Nat, j ≤ nc ∧ i = .int .i64 j ∧ s = .bool (Bp.someTo Z bn q s0 j) ∧ Drawn w6 wr) (fun _ i _ => nc - (intOf i).toNat)
      case atStart => exact ⟨0, Nat.zero_le _, rfl, by rw [Bp.someTo, H3.out], Drawn.refl _⟩
      case round =>
        obtain ⟨j, hj, rfl, rfl, hd⟩ := hrel
        have Hs := Lib.hid (show Bp.someTo Z bn q s0 (j + 1) = (Bp.someTo Z bn q s0 j || (((j : Int) != bn) && (Z.getD (bn : Int).toNat 0 - Z.getD j 0 == q))) from rfl)
        have Hse := Lib.hid (show j = nc → Bp.someTo Z bn q s0 j = true from fun e => by rw [e]; exact Hsome.out)
        obtain ⟨sv, hsv⟩ : ∃ sv, Bp.someTo Z bn q s0 j = sv := ⟨_, rfl⟩
        rw [hsv]
        have Hsv := Lib.hid hsv
        clear hsv
        have hbw := hd.below w6.heap.size
        by_cases hlt : j < nc
        · obtain ⟨g2, o2, x, hA, _, hx, ex⟩ := (hi.below hbw).at hlt
          injection hA with hA
          injection hA with e1 e2
          subst e1; subst e2
          have hyw : wr.cell? ⟨g3, o3 + bn, none⟩ = some (.int .i64 y) := (hbw.cell (lt_of_cell hy)).trans hy
          have hxb := Hbd.out.nth j
          rw [ex.out] at hxb
          have hwr : IntKind.i64.wrap (y - x) = y - x := IntWalk.i64_in _ (by omega)
          have i1 : (0 : Int) ≤ (j : Int) := by omega
          have i2 : (j : Int) < (nc : Int) := by omega
          by_cases hjb : j = bn
          · have d2 : ((j : Int) != (bn : Int)) = false := by simp; omega
            have D2 := Lib.hid d2
            have Hjb := Lib.hid hjb
            clear hjb
            cases sv
            all_goals
              go_wp2_with fail
              go_quiet (fail)
              go_wp2_with fail
              go_quiet (fail)
              go_wp2_with fail
              go_roundw
              case rel => exact ⟨j + 1, by omega, by go_num, by rw [Hs.out, Hsv.out, D2.out]; rfl, hd.drewN _⟩
              case measure => simp [intOf]; omega
          · have d2 : ((j : Int) != (bn : Int)) = true := by simp; omega
            have d3 := Hwin.out j x hlt ex.out hjb
            have d4 : decide (y - x < q) = false := decide_eq_false (show ¬ y - x < q by omega)
            have D2 := Lib.hid d2
            have Hjb := Lib.hid hjb
            clear hjb
            cases sv
            · cases hv : (y - x == q)
              all_goals
                have Hv := Lib.hid hv
                go_wp2_with fail
                go_quiet (fail)
                go_wp2_with fail
                go_quiet (fail)
                go_wp2_with fail
                go_roundw
                case rel => exact ⟨j + 1, by omega, by go_num, by rw [Hs.out, Hsv.out, D2.out, Int.toNat_natCast, ey.out, ex.out, Hv.out]; rfl, hd.drewN _⟩
                case measure => simp [intOf]; omega
            · go_wp2_with fail
              go_quiet (fail)
              go_wp2_with fail
              go_quiet (fail)
              go_wp2_with fail
              go_roundw
              case rel => exact ⟨j + 1, by omega, by go_num, by rw [Hs.out, Hsv.out]; rfl, hd.drewN _⟩
              case measure => simp [intOf]; omega
        · have hjn : j = nc := by omega
          have hst : sv = true := by rw [← Hsv.out]; exact Hse.out hjn
          subst hst
          clear hjn
          go_wp2_with fail
          go_ret
          exact ⟨rfl, hB6.trans (hd.below _)⟩
end Go.Proofs.Ytlbhbjhglkhbgaa
