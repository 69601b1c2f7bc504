/-
  The walk of FnTransferOut.
-/
import Derived.Test.YtiglkajafdecgaaLawTransKit
import Derived.Test.YtiglkajafdecgaaDrawTrans
import Derived.Test.YtiglkajafdecgaaTransRun
import Derived.Test.YtiglkajafdecgaaTransRunS
import Derived.Test.YtiglkajafdecgaaTransStep
namespace Go.Proofs.Ytiglkajafdecgaa
set_option linter.unusedVariables false
open Go.RowKit

set_option maxRecDepth 100000 in
set_option maxHeartbeats 8000000 in
theorem lawTransferOut_any (A : Option Addr) (n c : Nat) (w : World) (h : Bytes w w.heap.size A n) (hn : n ≤ 9223372036854775807) (hc : n ≤ c) :
    Calls Try.prog 6 #[.slice A n c] w fun e w' => e = .returned (.bool true) ∧ Below w.heap.size w w' := by
  by_cases hb : 1048576 < n
  · go_enter Try.func6, Try.ntmps6
    go_wp2_with fail
    go_ret
    exact ⟨rfl, Below.refl _ _⟩
  go_enter Try.func6, Try.ntmps6
  go_wp2_with fail
  refine (drawTransferSteps_some A n c _ h hn hc).mono ?_
  rintro e w1 ⟨gp, kp, cp, Al, m, cl, ps, lots, seats, rfl, hcp, hkp, hcl, hml, hse, hps, hlo, hb1⟩
  have hs1 := hb1.size
  go_wp2_with fail
  refine (iTransferSteps_any _ kp cp Al m cl seats ps lots _ hps (by omega) hcp hlo (by omega) hcl).mono ?_
  rintro e w2 ⟨A1, n1, c1, rfl, hc1, hn1, hown, hb2⟩
  have hs2 := hb2.size
  have hps2 := (hps.below hb2).mono hs2
  have hlo2 := (hlo.below hb2).mono hs2
  have hB2 := hb1.trans (hb2.mono hs1)
  go_wp2_with fail
  refine (sTransferSteps_any _ kp cp Al m cl seats ps lots _ hps2 (by omega) hlo2 (by omega) hcl).mono ?_
  rintro e w3 ⟨A2, n2, c2, rfl, hc2, hn2, hown2, hb3⟩
  have hs3 := hb3.size
  have hps3 := (hps2.below hb3).mono hs3
  have hlo3 := (hlo2.below hb3).mono hs3
  have hB3 := hB2.trans (hb3.mono (by omega))
  have hv1 := hown.view
  have hv := (hv1.below hb3).mono hs3
  have hv2 := hown2.view
  have hl := Lib.hid hlo.1
  clear hps hps2 hlo2 hlo hown2 hv1 hown
  cases hok : Bp.tval ps lots seats
  · rw [hok, sres_no rfl] at hv hv2
    have hcall2 := fun q => sameSteps_same _ _ n1 c1 n2 c2 [] _ _ (w3.drewN q) (hv.below (Drawn.below ((Drawn.refl w3).drewN q) _)) (hv2.below (Drawn.below ((Drawn.refl w3).drewN q) _)) (by simp) (by simp) (by omega) (fun k => by show (default : Bp.Stp).frs.length ≤ _; exact Nat.zero_le _)
    have hcall := sameSteps_same _ _ n1 c1 n2 c2 [] _ _ w3 hv hv2 (Nat.le_refl _) (Nat.le_refl _) (by omega) (fun k => by show (default : Bp.Stp).frs.length ≤ _; exact Nat.zero_le _)
    have Hcall := Lib.hid hcall
    have Hcall2 := Lib.hid hcall2
    clear hok hcall hcall2
    go_wp2_with fail
    refine Hcall.out.mono ?_
    rintro e w4 ⟨rfl, hd4⟩
    obtain ⟨q4, rfl⟩ := hd4
    go_wp2_with fail
    refine (Hcall2.out q4).mono ?_
    rintro e w5 ⟨rfl, hd5⟩
    go_wp2_with fail
    go_ret
    exact ⟨rfl, (hB3.trans (Drawn.below ((Drawn.refl w3).drewN q4) _)).trans (hd5.below _)⟩
  · obtain ⟨hlv, hf, ⟨h1, h2, h3⟩, hpsum⟩ := (Bp.tval_iff ps lots seats).1 hok
    have hm5 := Bp.lval_n hlv
    rw [sres_yes hok] at hv hv2
    have hlen := Lib.hid hv.1
    have hend := Bp.run_end hok
    have hpos := Bp.run_pos hok
    have hrun : ∀ k, k < n1 → ∃ p, Bp.RunAt ps lots seats k p := fun k hk => Bp.run_at hok (by rw [hlen.out]; exact hk)
    rw [hlen.out] at hend hpos
    rw [hl.out] at hend hm5 h3
    have hsz : ∀ k, ((Bp.transfer ps lots seats).getD k default).frs.length ≤ 1048576 := fun k => by
      by_cases hk : k < n1
      · obtain ⟨p, hp⟩ := hrun k hk
        unfold Bp.Stp.frs
        rw [Bp.frs_len, hp.law.len, hl.out]
        omega
      · have e0 : (Bp.transfer ps lots seats).getD k default = default := by unfold List.getD; rw [List.getElem?_eq_none (by rw [hlen.out]; omega)]; rfl
        rw [e0]; exact Nat.zero_le _
    have hcall := sameSteps_same _ _ n1 c1 n2 c2 (Bp.transfer ps lots seats) _ _ w3 hv hv2 (Nat.le_refl _) (Nat.le_refl _) (by omega) hsz
    have Hcall := Lib.hid hcall
    have Hrun := Lib.hid hrun
    have Hok := Lib.hid hok
    have Hlv := Lib.hid hlv
    have Hf := Lib.hid hf
    have Hend := Lib.hid hend
    clear hcall hrun hok hlv hf hsz hend
    go_wp2_with fail
    refine Hcall.out.mono ?_
    rintro e w4 ⟨rfl, hd4⟩
    have hb4 := hd4.below w3.heap.size
    have hs4 := hb4.size
    have hB4 := hB3.trans (hb4.mono (by omega))
    have hps4 := (hps3.below hb4).mono hs4
    have hlo4 := (hlo3.below hb4).mono hs4
    have hv4 := (hv.below hb4).mono hs4
    clear hv hv2 hps3 hlo3 hb4 hB3 hd4
    obtain ⟨i0, hi0, hz0, hz1, hz2⟩ := info_parts int_info
    go_wp2_with fail
    go_loopw [10, 11] (fun sv i wr => ∃ j G cs : Nat, j ≤ n1 ∧ i = .int .i64 j ∧ sv = .slice (some ⟨G, 0, none⟩) j cs ∧ j ≤ cs ∧ Own wr w4.heap.size (.slice (some ⟨G, 0, none⟩) j cs) j (Bp.whos (Bp.transfer ps lots seats) j) ∧ Below w4.heap.size w4 wr) (fun _ i _ => n1 - (intOf i).toNat)
    case atStart => exact ⟨0, _, 0, Nat.zero_le _, rfl, rfl, Nat.le_refl _, own_emptyI (Nat.le_refl _), (by repeat (first | exact Below.refl _ _ | assumption | refine below_drewN ?_ _ | refine Below.drew ?_ | refine Below.alloc ?_ (by first | exact Nat.le_refl _ | omega | (simp; done) | (simp; omega)) _ | refine Below.setCell ?_ (by first | exact Nat.le_refl _ | omega | (simp; done) | (simp; omega)) _))⟩
    case round =>
      obtain ⟨j, G, cs, hj, rfl, rfl, hjc, hown, hb⟩ := hrel
      have hz := hb.size
      obtain ⟨wo, rfl⟩ : ∃ wo : World, wo = wr := ⟨_, rfl⟩
      by_cases hlt : j < n1
      · obtain ⟨p, hp⟩ := Hrun.out j hlt
        obtain ⟨g, o, A3, m3, c3, who, kind, rfl, hg, k0, hmc3, hF, k1, k2, hwk⟩ := (hv4.below hb).at hlt
        have hjl : j < (Bp.transfer ps lots seats).length := by rw [hlen.out]; exact hlt
        have hpl := hp.law.lt
        have hnsl := hp.law.len
        have hD1 := hp.law.d1
        have hD60 := hp.law.d60
        have hbd := hp.law.bd
        rw [hl.out] at hpl hnsl
        have hwp := hp.law.who
        rw [hwk.out.1] at hwp
        subst hwp
        have hfr : ∀ k, k < m → (((Bp.transfer ps lots seats).getD j default).frs).getD k default = Bp.fr ((Bp.transfer ps lots seats).getD j default).d (((Bp.transfer ps lots seats).getD j default).ns.getD k 0) := fun k hk => Bp.frs_at _ _ (by omega)
        have hm3 : m = m3 := by
          have := hF.1
          unfold Bp.Stp.frs at this
          rw [Bp.frs_len] at this
          omega
        subst hm3
        have hvld : ∀ k, Fp.vld (Bp.fr ((Bp.transfer ps lots seats).getD j default).d (((Bp.transfer ps lots seats).getD j default).ns.getD k 0)).1 (Bp.fr ((Bp.transfer ps lots seats).getD j default).d (((Bp.transfer ps lots seats).getD j default).ns.getD k 0)).2 = true := fun k => by
          have := hbd k
          exact Bp.fr_vld hD1 (by omega) (by omega) (by omega)
        have hless := fun a b => Bp.fr_less_same hD1 (hvld a) (hvld b)
        have hws := Bp.whos_succ (Bp.transfer ps lots seats) hjl
        rw [hp.law.who] at hws
        have hwlf := fun k hk => Bp.whos_lf Hok.out j (by omega) k hk
        rw [hl.out] at hwlf
        have hleast := hp.law.least
        have hgone := hp.law.gone
        rw [hl.out, hwk.out.2] at hleast
        obtain ⟨ns, hns⟩ : ∃ ns, ((Bp.transfer ps lots seats).getD j default).ns = ns := ⟨_, rfl⟩
        obtain ⟨D, hD⟩ : ∃ D, ((Bp.transfer ps lots seats).getD j default).d = D := ⟨_, rfl⟩
        simp only [hns, hD] at hfr hvld hless hleast hgone hnsl hD1
        have Hfr := Lib.hid hfr
        have Hvld := Lib.hid hvld
        have Hless := Lib.hid hless
        have Hleast := Lib.hid hleast
        have Hgone := Lib.hid hgone
        have Hwlf := Lib.hid hwlf
        have Hws := Lib.hid hws
        have i1 : (0 : Int) ≤ (j : Int) := by omega
        have i2 : (j : Int) < (n1 : Int) := by omega
        have i5 : (0 : Int) ≤ (p : Int) := by omega
        have i6 : (p : Int) < (m : Int) := by omega
        have hgw4 : g < w4.heap.size := by omega
        clear hfr hvld hless hleast hgone hwlf hws hp hwk hns hD hbd
        go_wp2_with fail
        go_loopw [12] (fun i wr => ∃ k : Nat, k ≤ m ∧ i = .int .i64 k ∧ Below wo.heap.size wo wr) (fun i _ => m - (intOf i).toNat)
        case atStart => exact ⟨0, Nat.zero_le _, rfl, Below.refl _ _⟩
        case round =>
          obtain ⟨k, hk, rfl, hbi⟩ := hrel
          have hzi := hbi.size
          have a0 := (hbi.cell (p := ⟨g, o + j * 3, none⟩) (show g < wo.heap.size by omega)).trans k0
          have a1 := (hbi.cell (p := ⟨g, o + j * 3 + 1, none⟩) (show g < wo.heap.size by omega)).trans k1
          have a2 := (hbi.cell (p := ⟨g, o + j * 3 + 2, none⟩) (show g < wo.heap.size by omega)).trans k2
          by_cases hkm : k < m
          · have hFr := (hF.mono (show w4.heap.size ≤ wo.heap.size by omega)).below hbi
            obtain ⟨gF, oF, xa, xb, rfl, hgF, x0, x1, hxab⟩ := hFr.at hkm
            obtain ⟨gF', oF', pa, pb, hA', _, p0, p1, hpab⟩ := hFr.at hpl
            injection hA' with hA'
            injection hA' with e1 e2
            subst e1; subst e2
            have hx := (Hfr.out k hkm).symm.trans hxab.out
            have hpp := (Hfr.out p hpl).symm.trans hpab.out
            have hvx := Hvld.out k
            have hvp := Hvld.out p
            have hls := Hless.out k p
            rw [hx] at hvx hls
            rw [hpp] at hvp hls
            have i3 : (0 : Int) ≤ (k : Int) := by omega
            have i4 : (k : Int) < (m : Int) := by omega
            have hwlf := Hwlf.out k hkm
            obtain ⟨b1, hb1⟩ : ∃ b1, Bp.has (Bp.whos (Bp.transfer ps lots seats) j) (k : Int) = b1 := ⟨_, rfl⟩
            have hcall := hasInt_val (some ⟨G, 0, none⟩) j cs (k : Int) _ b1 hb1 _ wr (hown.ints.below hbi) (by omega)
            have Hcall := Lib.hid hcall
            rw [hb1] at hwlf
            have Hwlf2 := Lib.hid hwlf
            have Hx := Lib.hid hx
            have Hvx := Lib.hid hvx
            have Hvp := Lib.hid hvp
            have Hls := Lib.hid hls
            clear hcall hb1 hwlf hx hpp hvx hvp hls hxab hpab hFr
            cases b1
            · by_cases hk2 : kind = 2
              · subst hk2
                have hlf : Fp.less xa xb pa pb = false := by
                  rw [Hls.out, decide_eq_false_iff_not]
                  have := Hleast.out rfl k hkm Hwlf2.out
                  omega
                have Hlf := Lib.hid hlf
                have kz0 := fun x => calm_cell (W := wr) a0 x
                have kz1 := fun x => calm_cell (W := wr) a1 x
                have kz2 := fun x => calm_cell (W := wr) a2 x
                have kx0 := fun x => calm_cell (W := wr) x0 x
                have kx1 := fun x => calm_cell (W := wr) x1 x
                have kp0 := fun x => calm_cell (W := wr) p0 x
                have kp1 := fun x => calm_cell (W := wr) p1 x
                clear hlf
                go_wp2_with (go_at_call 27; refine Hcall.out.mono ?_; rintro e w' ⟨rfl, rfl⟩)
                refine wp_region_calm (by kernel_rfl) (by kernel_rfl) ?_
                repeat (go_big_quiet_step ((go_at_call 26; exact calm_call (iFracLess_val xa xb pa pb false _ Hvx.out Hvp.out Hlf.out))))
                refine wpQuiet_nil ?_
                rintro w6 ⟨⟨_, hb6⟩, rfl⟩
                go_wp2_with fail
                go_roundw
                case rel => exact ⟨k + 1, by omega, by go_num, hbi.trans (hb6.mono hzi)⟩
                case measure => simp [intOf]; omega
              · have d0 : (kind == 2) = false := by simpa using hk2
                go_wp2_with (go_at_call 27; refine Hcall.out.mono ?_; rintro e w' ⟨rfl, rfl⟩)
                go_quiet (fail)
                go_wp2_with fail
                go_roundw
                case rel => exact ⟨k + 1, by omega, by go_num, below_drewN hbi _⟩
                case measure => simp [intOf]; omega
            · have hz0' := Hgone.out k Hwlf2.out
              have hx' := Hx.out
              rw [hz0', Bp.fr_zero hD1] at hx'
              injection hx' with e1 e2
              subst e1; subst e2
              clear hz0'
              go_wp2_with (go_at_call 27; refine Hcall.out.mono ?_; rintro e w' ⟨rfl, rfl⟩)
              go_roundw
              case rel => exact ⟨k + 1, by omega, by go_num, hbi⟩
              case measure => simp [intOf]; omega
          · have hal : Below wr.heap.size wr (wr.alloc (.cells #[.int .i64 (p : Int)] 3)) := (Below.refl _ _).alloc (Nat.le_refl _) _
            have hownr : Own wr w4.heap.size (.slice (some ⟨G, 0, none⟩) j cs) j (Bp.whos (Bp.transfer ps lots seats) j) := hown.keep hbi
            have hbr := hb.trans (hbi.mono hz)
            have hzr := hbr.size
            go_wp2_with (at_builtin; refine wpList_append_own _ rfl (.tmp 116) (.tmp 122) 23 rfl w4.heap.size 3 i0 _ 1 8 Try.underlying23 hi0 hz0 hz1 hz2 rfl (by decide) (.slice (some ⟨G, 0, none⟩) j cs) j _ rfl (hownr.row.alloc _) ⟨wr.heap.size, 0, none⟩ 1 1 [.int .i64 (p : Int)] rfl rfl (cell_one_new _ _ _) (by simp [Value.oneCell']) (by unfold maxLen; omega) (by omega) (by simp; omega) ?_; intro v1 w6 hown6 hg6 hv6; obtain ⟨G6, c6, rfl, hnc6, hGb6⟩ := own_form' hown6 (fun e => by have := hv6.1 e; cases this.1); clear hv6)
            go_roundw
            case rel => exact ⟨j + 1, G6, c6, by omega, by go_num, rfl, hnc6, by rw [Hws.out]; unfold Own; rw [List.map_append]; exact hown6, (hbr.trans (hal.mono hzr)).grown hg6 (by simp; omega) (fun g hg => (hownr.row.lt g hg).1)⟩
            case measure => simp [intOf]; omega
      · go_wp2_with fail
        go_ret
        exact ⟨rfl, hB4.trans (hb.mono (by omega))⟩
end Go.Proofs.Ytiglkajafdecgaa
