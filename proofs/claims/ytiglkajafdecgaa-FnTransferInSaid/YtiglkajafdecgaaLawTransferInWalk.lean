/-
  The walk of FnTransferIn.
-/
import Derived.Test.YtiglkajafdecgaaLawTransKit
import Derived.Test.YtiglkajafdecgaaDrawTrans
import Derived.Test.YtiglkajafdecgaaTransRun
import Derived.Test.YtiglkajafdecgaaTransRunS
import Derived.Deep.DeepCutAuto
import Derived.Test.YtiglkajafdecgaaTransStep
namespace Go.Proofs.Ytiglkajafdecgaa
set_option linter.unusedVariables false
open Go.RowKit

set_option maxRecDepth 100000 in
set_option maxHeartbeats 8000000 in
theorem lawTransferIn_any (A : Option Addr) (n c : Nat) (w : World) (h : Bytes w w.heap.size A n) (hn : n ≤ 9223372036854775807) (hc : n ≤ c) :
    Calls Try.prog 4 #[.slice A n c] w fun e w' => e = .returned (.bool true) ∧ Below w.heap.size w w' := by
  by_cases hb : 1048576 < n
  · go_enter Try.func4, Try.ntmps4
    go_wp2_with fail
    go_ret
    exact ⟨rfl, Below.refl _ _⟩
  go_enter Try.func4, Try.ntmps4
  go_wp2_with fail
  refine (drawTransferSteps_some A n c _ h hn hc).mono ?_
  rintro e w1 ⟨gp, kp, cp, Al, m, cl, ps, lots, seats, rfl, hcp, hkp, hcl, hml, hse, hps, hlo, hb1⟩
  have hs1 := hb1.size
  go_wp2_with fail
  refine (iTransferSteps_any _ kp cp Al m cl seats ps lots _ hps (by omega) hcp hlo (by omega) hcl).mono ?_
  rintro e w2 ⟨A1, n1, c1, rfl, hc1, hn1, hown, hb2⟩
  have hs2 := hb2.size
  have hps2 := (hps.below hb2).mono hs2
  have hlo2 := (hlo.below hb2).mono hs2
  have hB2 := hb1.trans (hb2.mono hs1)
  go_wp2_with fail
  refine (sTransferSteps_any _ kp cp Al m cl seats ps lots _ hps2 (by omega) hlo2 (by omega) hcl).mono ?_
  rintro e w3 ⟨A2, n2, c2, rfl, hc2, hn2, hown2, hb3⟩
  have hs3 := hb3.size
  have hps3 := (hps2.below hb3).mono hs3
  have hlo3 := (hlo2.below hb3).mono hs3
  have hB3 := hB2.trans (hb3.mono (by omega))
  have hv1 := hown.view
  have hv := (hv1.below hb3).mono hs3
  have hv2 := hown2.view
  have hl := Lib.hid hlo.1
  clear hps hps2 hlo2 hlo hown2 hv1 hown
  cases hok : Bp.tval ps lots seats
  · rw [hok, sres_no rfl] at hv hv2
    have hcall2 := fun q => sameSteps_same _ _ n1 c1 n2 c2 [] _ _ (w3.drewN q) (hv.below (Drawn.below ((Drawn.refl w3).drewN q) _)) (hv2.below (Drawn.below ((Drawn.refl w3).drewN q) _)) (by simp) (by simp) (by omega) (fun k => by show (default : Bp.Stp).frs.length ≤ _; exact Nat.zero_le _)
    have hcall := sameSteps_same _ _ n1 c1 n2 c2 [] _ _ w3 hv hv2 (Nat.le_refl _) (Nat.le_refl _) (by omega) (fun k => by show (default : Bp.Stp).frs.length ≤ _; exact Nat.zero_le _)
    have Hcall := Lib.hid hcall
    have Hcall2 := Lib.hid hcall2
    clear hok hcall hcall2
    go_wp2_with fail
    refine Hcall.out.mono ?_
    rintro e w4 ⟨rfl, hd4⟩
    obtain ⟨q4, rfl⟩ := hd4
    go_wp2_with fail
    refine (Hcall2.out q4).mono ?_
    rintro e w5 ⟨rfl, hd5⟩
    go_wp2_with fail
    go_ret
    exact ⟨rfl, (hB3.trans (Drawn.below ((Drawn.refl w3).drewN q4) _)).trans (hd5.below _)⟩
  · obtain ⟨hlv, hf, ⟨h1, h2, h3⟩, hpsum⟩ := (Bp.tval_iff ps lots seats).1 hok
    have hm5 := Bp.lval_n hlv
    rw [sres_yes hok] at hv hv2
    have hlen := Lib.hid hv.1
    have hend := Bp.run_end hok
    have hpos := Bp.run_pos hok
    have hrun : ∀ k, k < n1 → ∃ p, Bp.RunAt ps lots seats k p := fun k hk => Bp.run_at hok (by rw [hlen.out]; exact hk)
    rw [hlen.out] at hend hpos
    rw [hl.out] at hend hm5 h3
    have hsz : ∀ k, ((Bp.transfer ps lots seats).getD k default).frs.length ≤ 1048576 := fun k => by
      by_cases hk : k < n1
      · obtain ⟨p, hp⟩ := hrun k hk
        unfold Bp.Stp.frs
        rw [Bp.frs_len, hp.law.len, hl.out]
        omega
      · have e0 : (Bp.transfer ps lots seats).getD k default = default := by unfold List.getD; rw [List.getElem?_eq_none (by rw [hlen.out]; omega)]; rfl
        rw [e0]; exact Nat.zero_le _
    have hcall := sameSteps_same _ _ n1 c1 n2 c2 (Bp.transfer ps lots seats) _ _ w3 hv hv2 (Nat.le_refl _) (Nat.le_refl _) (by omega) hsz
    have Hcall := Lib.hid hcall
    have Hrun := Lib.hid hrun
    have Hok := Lib.hid hok
    have Hlv := Lib.hid hlv
    have Hf := Lib.hid hf
    have Hpv := Lib.hid (Bp.fits_val hf)
    have Hend := Lib.hid hend
    clear hcall hrun hok hlv hf hsz hend
    go_wp2_with fail
    refine Hcall.out.mono ?_
    rintro e w4 ⟨rfl, hd4⟩
    have hb4 := hd4.below w3.heap.size
    have hs4 := hb4.size
    have hB4 := hB3.trans (hb4.mono (by omega))
    have hps4 := (hps3.below hb4).mono hs4
    have hlo4 := (hlo3.below hb4).mono hs4
    have hv4 := (hv.below hb4).mono hs4
    clear hv hv2 hps3 hlo3 hb4 hB3 hd4
    have hpt := Bp.ptotal_yes Hpv.out
    have hpb := Bp.psum_bd Hpv.out
    have hqb := Bp.tquota_bd Hpv.out hpsum h1
    have hqq : Fp.quota (Bp.psum ps) seats = Bp.tquota ps seats := Fp.quota_in _ _ ((Fp.inr_iff _ _ _).2 ⟨hpb.1, hpsum⟩) ((Fp.inr_iff _ _ _).2 ⟨h1, h2⟩)
    obtain ⟨tot, htot⟩ : ∃ tot, Bp.psum ps = tot := ⟨_, rfl⟩
    obtain ⟨q, hqe⟩ : ∃ q, Bp.tquota ps seats = q := ⟨_, rfl⟩
    rw [htot] at hpt hqq hpsum hpb
    rw [hqe] at hqq hqb
    have Hpt := Lib.hid hpt
    have Hqq := Lib.hid hqq
    have Htot := Lib.hid htot
    have Hqe := Lib.hid hqe
    have hvq : Fp.vld q 1 = true := by
      have := Bp.fr_vld (d := 1) (n := q) (by omega) (by omega) (by omega) (by omega)
      rwa [Bp.fr_one] at this
    have Hvq := Lib.hid hvq
    clear hpt hqq htot hqe hvq
    go_wp2_with fail
    refine (iPilesTotal_yes _ kp cp ps tot Hpt.out _ hps4 (by omega) hcp).mono ?_
    rintro e w5 ⟨rfl, hb5⟩
    have hs5 := hb5.size
    have hB5 := hB4.trans (hb5.mono (by omega))
    have hv5 := (hv4.below hb5).mono hs5
    clear hb5 hv4 hps4 hlo4 hB4
    go_upto_region 9 with (go_at_call 24; refine (iQuota_yes tot seats q Hqq.out w5).mono ?_; rintro e w' ⟨rfl, rfl⟩)
    obtain ⟨wq, hwq⟩ : ∃ wq, w5.alloc (.cells #[.int .i64 q, .int .i64 1] 44) = wq := ⟨_, rfl⟩
    have hbq : Below w5.heap.size w5 wq := by rw [← hwq]; exact (Below.refl _ _).alloc (Nat.le_refl _) _
    have hzq : w5.heap.size < wq.heap.size := by rw [← hwq]; simp
    have c0 : wq.cell? ⟨w5.heap.size, 0, none⟩ = some (.int .i64 q) := by rw [← hwq]; simp [go_sem]
    have c1 : wq.cell? ⟨w5.heap.size, 1, none⟩ = some (.int .i64 1) := by rw [← hwq]; simp [go_sem]
    have hvw := (hv5.below hbq).mono (show w5.heap.size ≤ wq.heap.size by omega)
    have hBq := hB5.trans (hbq.mono (by omega))
    obtain ⟨Qb, hQb⟩ : ∃ Qb, w5.heap.size = Qb := ⟨_, rfl⟩
    rw [hwq]
    rw [hQb] at c0 c1 hzq ⊢
    clear hwq hbq hv5 hB5 hQb
    go_wp2_with fail
    go_loopw [11] (fun i wr => ∃ j : Nat, j ≤ n1 ∧ i = .int .i64 j ∧ Below wq.heap.size wq wr) (fun i _ => n1 - (intOf i).toNat)
    case atStart => exact ⟨0, Nat.zero_le _, rfl, Below.refl _ _⟩
    case round =>
      obtain ⟨j, hj, rfl, hb⟩ := hrel
      have hz := hb.size
      obtain ⟨wo, rfl⟩ : ∃ wo : World, wo = wr := ⟨_, rfl⟩
      by_cases hlt : j < n1
      · obtain ⟨p, hp⟩ := Hrun.out j hlt
        obtain ⟨g, o, A3, m3, c3, who, kind, rfl, hg, k0, hmc3, hF, k1, k2, hwk⟩ := (hvw.below hb).at hlt
        have hpl := hp.law.lt
        have hnsl := hp.law.len
        have hD1 := hp.law.d1
        have hD60 := hp.law.d60
        have hbd := hp.law.bd
        rw [hl.out] at hpl hnsl
        have hwp := hp.law.who
        rw [hwk.out.1] at hwp
        subst hwp
        have hfr : ∀ k, k < m → (((Bp.transfer ps lots seats).getD j default).frs).getD k default = Bp.fr ((Bp.transfer ps lots seats).getD j default).d (((Bp.transfer ps lots seats).getD j default).ns.getD k 0) := fun k hk => Bp.frs_at _ _ (by omega)
        have hm3 : m = m3 := by
          have := hF.1
          unfold Bp.Stp.frs at this
          rw [Bp.frs_len] at this
          omega
        subst hm3
        have hvld : ∀ k, Fp.vld (Bp.fr ((Bp.transfer ps lots seats).getD j default).d (((Bp.transfer ps lots seats).getD j default).ns.getD k 0)).1 (Bp.fr ((Bp.transfer ps lots seats).getD j default).d (((Bp.transfer ps lots seats).getD j default).ns.getD k 0)).2 = true := fun k => by
          have := hbd k
          exact Bp.fr_vld hD1 (by omega) (by omega) (by omega)
        have hless := fun a b => Bp.fr_less_same hD1 (hvld a) (hvld b)
        have hless2 := fun a => Bp.fr_less_whole (d := ((Bp.transfer ps lots seats).getD j default).d) (a := ((Bp.transfer ps lots seats).getD j default).ns.getD a 0) (q := q) hD1 (hvld a) (by omega) (by omega)
        have hown := hp.law.own
        have hmost := hp.law.most
        have hfew := hp.law.few
        have hkd := hp.law.kind
        rw [hwk.out.2, Hqe.out] at hown hfew
        rw [hwk.out.2] at hmost hkd
        rw [hl.out] at hmost hfew
        obtain ⟨ns, hns⟩ : ∃ ns, ((Bp.transfer ps lots seats).getD j default).ns = ns := ⟨_, rfl⟩
        obtain ⟨D, hD⟩ : ∃ D, ((Bp.transfer ps lots seats).getD j default).d = D := ⟨_, rfl⟩
        simp only [hns, hD] at hfr hvld hless hless2 hown hmost hfew hnsl hD1
        have hFo := (hF.mono (show wq.heap.size ≤ wo.heap.size by omega))
        obtain ⟨gF, oF, pa, pb, rfl, hgF, p0, p1, hpab⟩ := hFo.at hpl
        have hpp := (hfr p hpl).symm.trans hpab.out
        have hvp := hvld p
        have hlp := fun k => hless p k
        have hlq := hless2 p
        rw [hpp] at hvp hlq
        simp only [hpp] at hlp
        dsimp only at hvp hlq
        have Hfr := Lib.hid hfr
        have Hvld := Lib.hid hvld
        have Hlp := Lib.hid hlp
        have Hlq := Lib.hid hlq
        have Hless2 := Lib.hid hless2
        have Hown := Lib.hid hown
        have Hmost := Lib.hid hmost
        have Hfew := Lib.hid hfew
        have Hvp := Lib.hid hvp
        have i1 : (0 : Int) ≤ (j : Int) := by omega
        have i2 : (j : Int) < (n1 : Int) := by omega
        have i5 : (0 : Int) ≤ (p : Int) := by omega
        have i6 : (p : Int) < (m : Int) := by omega
        have q0 := (hb.cell (p := ⟨Qb, 0, none⟩) hzq).trans c0
        have q1 := (hb.cell (p := ⟨Qb, 1, none⟩) hzq).trans c1
        clear hfr hvld hless hless2 hown hmost hfew hp hwk hns hD hbd hpab hpp hvp hlp hlq
        go_wp2_with fail
        go_region_held (fun w' => (w'.cell? ⟨g, o + j * 3, none⟩ = some (.slice (some ⟨gF, oF, none⟩) m c3) ∧ w'.cell? ⟨g, o + j * 3 + 1, none⟩ = some (.int .i64 (p : Int))) ∧ w'.cell? ⟨gF, oF + p * 2, none⟩ = some (.int .i64 pa) ∧ w'.cell? ⟨gF, oF + p * 2 + 1, none⟩ = some (.int .i64 pb)) (go_keep) (fail)
        obtain ⟨wP, hwP⟩ : ∃ wP, (wo.alloc (.cells #[.int .i64 pa, .int .i64 pb] 44)).drew = wP := ⟨_, rfl⟩
        have hbP : Below wo.heap.size wo wP := by rw [← hwP]; exact ((Below.refl _ _).alloc (Nat.le_refl _) _).drew
        have hzP : wo.heap.size < wP.heap.size := by rw [← hwP]; simp
        have o0 : wP.cell? ⟨wo.heap.size, 0, none⟩ = some (.int .i64 pa) := by rw [← hwP]; simp [go_sem]
        have o1 : wP.cell? ⟨wo.heap.size, 1, none⟩ = some (.int .i64 pb) := by rw [← hwP]; simp [go_sem]
        have a0 := (hbP.cell (p := ⟨g, o + j * 3, none⟩) (show g < wo.heap.size by omega)).trans k0
        have a2 := (hbP.cell (p := ⟨g, o + j * 3 + 2, none⟩) (show g < wo.heap.size by omega)).trans k2
        have b0 := (hbP.cell (p := ⟨Qb, 0, none⟩) (show Qb < wo.heap.size by omega)).trans q0
        have b1 := (hbP.cell (p := ⟨Qb, 1, none⟩) (show Qb < wo.heap.size by omega)).trans q1
        have hFP := (hFo.below hbP).mono hbP.size
        obtain ⟨Ob, hOb⟩ : ∃ Ob, wo.heap.size = Ob := ⟨_, rfl⟩
        rw [hwP]
        rw [hOb] at o0 o1 hzP ⊢
        have hgP : g < wP.heap.size := by omega
        have hQP : Qb < wP.heap.size := by omega
        clear hwP hOb k0 k1 k2 p0 p1 q0 q1 hFo hF
        have ko0 := fun x => calm_cell (W := wP) o0 x
        have ko1 := fun x => calm_cell (W := wP) o1 x
        have kq0 := fun x => calm_cell (W := wP) b0 x
        have kq1 := fun x => calm_cell (W := wP) b1 x
        have ka2 := fun x => calm_cell (W := wP) a2 x
        rcases hkd with e | e | e
        · subst e
          have hv1 : Fp.less pa pb q 1 = false := by rw [Hlq.out, decide_eq_false_iff_not]; have := Hown.out.1 rfl; omega
          have Hv1 := Lib.hid hv1
          clear hv1
          go_wp2_with fail
          refine wp_region_calm (by kernel_rfl) (by kernel_rfl) ?_
          repeat (go_big_quiet_step ((go_at_call 26; exact calm_call (iFracLess_val pa pb q 1 false _ Hvp.out Hvq.out Hv1.out))))
          refine wpQuiet_nil ?_
          rintro w6 ⟨⟨_, hb6⟩, rfl⟩
          have hz6 := hb6.size
          clear ko0 ko1 kq0 kq1 ka2
          go_wp2_with fail
          go_loopw [13] (fun i wr => ∃ k : Nat, k ≤ m ∧ i = .int .i64 k ∧ Below wP.heap.size wP wr) (fun i _ => m - (intOf i).toNat)
          case atStart => exact ⟨0, Nat.zero_le _, rfl, hb6⟩
          case round =>
            obtain ⟨k, hk, rfl, hbi⟩ := hrel
            have hzi := hbi.size
            have r0 := (hbi.cell (p := ⟨g, o + j * 3, none⟩) hgP).trans a0
            by_cases hkm : k < m
            · obtain ⟨gF', oF', xa, xb, hA', _, x0, x1, hxab⟩ := (hFP.below (hbi.mono (by omega))).at hkm
              injection hA' with hA'
              injection hA' with e1 e2
              subst e1; subst e2
              have hx := (Hfr.out k hkm).symm.trans hxab.out
              have hvx := Hvld.out k
              rw [hx] at hvx
              have Hvx := Lib.hid hvx
              have i3 : (0 : Int) ≤ (k : Int) := by omega
              have i4 : (k : Int) < (m : Int) := by omega
              have ko0 := fun x => calm_cell (W := wr) ((hbi.cell (p := ⟨Ob, 0, none⟩) hzP).trans o0) x
              have ko1 := fun x => calm_cell (W := wr) ((hbi.cell (p := ⟨Ob, 1, none⟩) hzP).trans o1) x
              have kq0 := fun x => calm_cell (W := wr) ((hbi.cell (p := ⟨Qb, 0, none⟩) hQP).trans b0) x
              have kq1 := fun x => calm_cell (W := wr) ((hbi.cell (p := ⟨Qb, 1, none⟩) hQP).trans b1) x
              have ka0 := fun x => calm_cell (W := wr) r0 x
              have ka2 := fun x => calm_cell (W := wr) ((hbi.cell (p := ⟨g, o + j * 3 + 2, none⟩) hgP).trans a2) x
              have kx0 := fun x => calm_cell (W := wr) x0 x
              have kx1 := fun x => calm_cell (W := wr) x1 x
              clear hvx hxab
              have htrue : True := trivial
              · skip
                have hl2 := Hlp.out k
                have hmk := Hmost.out (by decide) k hkm
                rw [hx] at hl2
                have hl3 : Fp.less pa pb xa xb = false := by rw [hl2, decide_eq_false_iff_not]; omega
                have Hl3 := Lib.hid hl3
                clear hl2 hmk hl3 hx
                go_wp2_with fail
                refine wp_region_calm (by kernel_rfl) (by kernel_rfl) ?_
                repeat (go_big_quiet_step ((go_at_call 26; exact calm_call (iFracLess_val pa pb xa xb false _ Hvp.out Hvx.out Hl3.out))))
                refine wpQuiet_nil ?_
                rintro w7 ⟨⟨_, hb7⟩, rfl⟩
                go_wp2_with fail
                go_roundw
                case rel => exact ⟨k + 1, by omega, by go_num, hbi.trans (hb7.mono hzi)⟩
                case measure => simp [intOf]; omega
            · go_wp2_with fail
              go_roundw
              case rel => exact ⟨j + 1, by omega, by go_num, hb.trans ((hbP.trans (hbi.mono hbP.size)).mono hz)⟩
              case measure => simp [intOf]; omega
        · subst e
          have hv1 : Fp.less pa pb q 1 = true := by rw [Hlq.out, decide_eq_true_iff]; have := mt Hown.out.2 (by decide); omega
          have Hv1 := Lib.hid hv1
          clear hv1
          go_wp2_with fail
          refine wp_region_calm (by kernel_rfl) (by kernel_rfl) ?_
          repeat (go_big_quiet_step ((go_at_call 26; exact calm_call (iFracLess_val pa pb q 1 true _ Hvp.out Hvq.out Hv1.out))))
          refine wpQuiet_nil ?_
          rintro w6 ⟨⟨_, hb6⟩, rfl⟩
          have hz6 := hb6.size
          clear ko0 ko1 kq0 kq1 ka2
          go_wp2_with fail
          go_loopw [13] (fun i wr => ∃ k : Nat, k ≤ m ∧ i = .int .i64 k ∧ Below wP.heap.size wP wr) (fun i _ => m - (intOf i).toNat)
          case atStart => exact ⟨0, Nat.zero_le _, rfl, hb6⟩
          case round =>
            obtain ⟨k, hk, rfl, hbi⟩ := hrel
            have hzi := hbi.size
            have r0 := (hbi.cell (p := ⟨g, o + j * 3, none⟩) hgP).trans a0
            by_cases hkm : k < m
            · obtain ⟨gF', oF', xa, xb, hA', _, x0, x1, hxab⟩ := (hFP.below (hbi.mono (by omega))).at hkm
              injection hA' with hA'
              injection hA' with e1 e2
              subst e1; subst e2
              have hx := (Hfr.out k hkm).symm.trans hxab.out
              have hvx := Hvld.out k
              rw [hx] at hvx
              have Hvx := Lib.hid hvx
              have i3 : (0 : Int) ≤ (k : Int) := by omega
              have i4 : (k : Int) < (m : Int) := by omega
              have ko0 := fun x => calm_cell (W := wr) ((hbi.cell (p := ⟨Ob, 0, none⟩) hzP).trans o0) x
              have ko1 := fun x => calm_cell (W := wr) ((hbi.cell (p := ⟨Ob, 1, none⟩) hzP).trans o1) x
              have kq0 := fun x => calm_cell (W := wr) ((hbi.cell (p := ⟨Qb, 0, none⟩) hQP).trans b0) x
              have kq1 := fun x => calm_cell (W := wr) ((hbi.cell (p := ⟨Qb, 1, none⟩) hQP).trans b1) x
              have ka0 := fun x => calm_cell (W := wr) r0 x
              have ka2 := fun x => calm_cell (W := wr) ((hbi.cell (p := ⟨g, o + j * 3 + 2, none⟩) hgP).trans a2) x
              have kx0 := fun x => calm_cell (W := wr) x0 x
              have kx1 := fun x => calm_cell (W := wr) x1 x
              clear hvx hxab
              have htrue : True := trivial
              · skip
                have hl2 := Hless2.out k
                have hfk := Hfew.out (by first | rfl | trivial) k hkm
                rw [hx] at hl2
                have hl3 : Fp.less xa xb q 1 = true := by rw [hl2, decide_eq_true_iff]; exact hfk
                have Hl3 := Lib.hid hl3
                clear hl2 hfk hl3 hx
                go_wp2_with fail
                refine wp_region_calm (by kernel_rfl) (by kernel_rfl) ?_
                repeat (go_big_quiet_step ((go_at_call 26; exact calm_call (iFracLess_val xa xb q 1 true _ Hvx.out Hvq.out Hl3.out))))
                refine wpQuiet_nil ?_
                rintro w7 ⟨⟨_, hb7⟩, rfl⟩
                go_wp2_with fail
                go_roundw
                case rel => exact ⟨k + 1, by omega, by go_num, hbi.trans (hb7.mono hzi)⟩
                case measure => simp [intOf]; omega
            · go_wp2_with fail
              go_roundw
              case rel => exact ⟨j + 1, by omega, by go_num, hb.trans ((hbP.trans (hbi.mono hbP.size)).mono hz)⟩
              case measure => simp [intOf]; omega
        · subst e
          have hv1 : Fp.less pa pb q 1 = true := by rw [Hlq.out, decide_eq_true_iff]; have := mt Hown.out.2 (by decide); omega
          have Hv1 := Lib.hid hv1
          clear hv1
          go_wp2_with fail
          refine wp_region_calm (by kernel_rfl) (by kernel_rfl) ?_
          repeat (go_big_quiet_step ((go_at_call 26; exact calm_call (iFracLess_val pa pb q 1 true _ Hvp.out Hvq.out Hv1.out))))
          refine wpQuiet_nil ?_
          rintro w6 ⟨⟨_, hb6⟩, rfl⟩
          have hz6 := hb6.size
          clear ko0 ko1 kq0 kq1 ka2
          go_wp2_with fail
          go_loopw [13] (fun i wr => ∃ k : Nat, k ≤ m ∧ i = .int .i64 k ∧ Below wP.heap.size wP wr) (fun i _ => m - (intOf i).toNat)
          case atStart => exact ⟨0, Nat.zero_le _, rfl, hb6⟩
          case round =>
            obtain ⟨k, hk, rfl, hbi⟩ := hrel
            have hzi := hbi.size
            have r0 := (hbi.cell (p := ⟨g, o + j * 3, none⟩) hgP).trans a0
            by_cases hkm : k < m
            · obtain ⟨gF', oF', xa, xb, hA', _, x0, x1, hxab⟩ := (hFP.below (hbi.mono (by omega))).at hkm
              injection hA' with hA'
              injection hA' with e1 e2
              subst e1; subst e2
              have hx := (Hfr.out k hkm).symm.trans hxab.out
              have hvx := Hvld.out k
              rw [hx] at hvx
              have Hvx := Lib.hid hvx
              have i3 : (0 : Int) ≤ (k : Int) := by omega
              have i4 : (k : Int) < (m : Int) := by omega
              have ko0 := fun x => calm_cell (W := wr) ((hbi.cell (p := ⟨Ob, 0, none⟩) hzP).trans o0) x
              have ko1 := fun x => calm_cell (W := wr) ((hbi.cell (p := ⟨Ob, 1, none⟩) hzP).trans o1) x
              have kq0 := fun x => calm_cell (W := wr) ((hbi.cell (p := ⟨Qb, 0, none⟩) hQP).trans b0) x
              have kq1 := fun x => calm_cell (W := wr) ((hbi.cell (p := ⟨Qb, 1, none⟩) hQP).trans b1) x
              have ka0 := fun x => calm_cell (W := wr) r0 x
              have ka2 := fun x => calm_cell (W := wr) ((hbi.cell (p := ⟨g, o + j * 3 + 2, none⟩) hgP).trans a2) x
              have kx0 := fun x => calm_cell (W := wr) x0 x
              have kx1 := fun x => calm_cell (W := wr) x1 x
              clear hvx hxab
              have htrue : True := trivial
              · skip
                have hl2 := Hlp.out k
                have hmk := Hmost.out (by decide) k hkm
                rw [hx] at hl2
                have hl3 : Fp.less pa pb xa xb = false := by rw [hl2, decide_eq_false_iff_not]; omega
                have Hl3 := Lib.hid hl3
                clear hl2 hmk hl3 hx
                go_wp2_with fail
                refine wp_region_calm (by kernel_rfl) (by kernel_rfl) ?_
                repeat (go_big_quiet_step ((go_at_call 26; exact calm_call (iFracLess_val pa pb xa xb false _ Hvp.out Hvx.out Hl3.out))))
                refine wpQuiet_nil ?_
                rintro w7 ⟨⟨_, hb7⟩, rfl⟩
                go_wp2_with fail
                go_roundw
                case rel => exact ⟨k + 1, by omega, by go_num, hbi.trans (hb7.mono hzi)⟩
                case measure => simp [intOf]; omega
            · go_wp2_with fail
              go_roundw
              case rel => exact ⟨j + 1, by omega, by go_num, hb.trans ((hbP.trans (hbi.mono hbP.size)).mono hz)⟩
              case measure => simp [intOf]; omega
      · go_wp2_with fail
        go_ret
        exact ⟨rfl, hBq.trans (hb.mono hBq.size)⟩
end Go.Proofs.Ytiglkajafdecgaa
