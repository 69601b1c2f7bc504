/-
  The walk of FnTransfer.
-/
import Derived.Test.YtiglkajafdecgaaLawTransKit
import Derived.Test.YtiglkajafdecgaaDrawTrans
import Derived.Test.YtiglkajafdecgaaTransRun
import Derived.Test.YtiglkajafdecgaaTransRunS
import Derived.Deep.DeepCutAuto
namespace Go.Proofs.Ytiglkajafdecgaa
set_option linter.unusedVariables false
open Go.RowKit

set_option maxRecDepth 100000 in
set_option maxHeartbeats 8000000 in
theorem lawTransfer_any (A : Option Addr) (n c : Nat) (w : World) (h : Bytes w w.heap.size A n) (hn : n ≤ 9223372036854775807) (hc : n ≤ c) :
    Calls Try.prog 9 #[.slice A n c] w fun e w' => e = .returned (.bool true) ∧ Below w.heap.size w w' := by
  by_cases hb : 1048576 < n
  · go_enter Try.func9, Try.ntmps9
    go_wp2_with fail
    go_ret
    exact ⟨rfl, Below.refl _ _⟩
  go_enter Try.func9, Try.ntmps9
  go_wp2_with fail
  refine (drawTransferSteps_some A n c _ h hn hc).mono ?_
  rintro e w1 ⟨gp, kp, cp, Al, m, cl, ps, lots, seats, rfl, hcp, hkp, hcl, hml, hse, hps, hlo, hb1⟩
  have hs1 := hb1.size
  go_wp2_with fail
  refine (iTransferSteps_any _ kp cp Al m cl seats ps lots _ hps (by omega) hcp hlo (by omega) hcl).mono ?_
  rintro e w2 ⟨A1, n1, c1, rfl, hc1, hn1, hown, hb2⟩
  have hs2 := hb2.size
  have hps2 := (hps.below hb2).mono hs2
  have hlo2 := (hlo.below hb2).mono hs2
  have hB2 := hb1.trans (hb2.mono hs1)
  go_wp2_with fail
  refine (sTransferSteps_any _ kp cp Al m cl seats ps lots _ hps2 (by omega) hlo2 (by omega) hcl).mono ?_
  rintro e w3 ⟨A2, n2, c2, rfl, hc2, hn2, hown2, hb3⟩
  have hs3 := hb3.size
  have hps3 := (hps2.below hb3).mono hs3
  have hlo3 := (hlo2.below hb3).mono hs3
  have hB3 := hB2.trans (hb3.mono (by omega))
  have hv1 := hown.view
  have hv := (hv1.below hb3).mono hs3
  have hv2 := hown2.view
  have hl := Lib.hid hlo.1
  clear hps hps2 hlo2 hlo hown2 hv1 hown
  cases hok : Bp.tval ps lots seats
  · rw [hok, sres_no rfl] at hv hv2
    have hcall2 := fun q => sameSteps_same _ _ n1 c1 n2 c2 [] _ _ (w3.drewN q) (hv.below (Drawn.below ((Drawn.refl w3).drewN q) _)) (hv2.below (Drawn.below ((Drawn.refl w3).drewN q) _)) (by simp) (by simp) (by omega) (fun k => by show (default : Bp.Stp).frs.length ≤ _; exact Nat.zero_le _)
    have hcall := sameSteps_same _ _ n1 c1 n2 c2 [] _ _ w3 hv hv2 (Nat.le_refl _) (Nat.le_refl _) (by omega) (fun k => by show (default : Bp.Stp).frs.length ≤ _; exact Nat.zero_le _)
    have Hcall := Lib.hid hcall
    have Hcall2 := Lib.hid hcall2
    clear hok hcall hcall2
    go_wp2_with fail
    refine Hcall.out.mono ?_
    rintro e w4 ⟨rfl, hd4⟩
    obtain ⟨q4, rfl⟩ := hd4
    go_wp2_with fail
    refine (Hcall2.out q4).mono ?_
    rintro e w5 ⟨rfl, hd5⟩
    go_wp2_with fail
    go_ret
    exact ⟨rfl, (hB3.trans (Drawn.below ((Drawn.refl w3).drewN q4) _)).trans (hd5.below _)⟩
  · obtain ⟨hlv, hf, ⟨h1, h2, h3⟩, hpsum⟩ := (Bp.tval_iff ps lots seats).1 hok
    have hm5 := Bp.lval_n hlv
    rw [sres_yes hok] at hv hv2
    have hlen := Lib.hid hv.1
    have hend := Bp.run_end hok
    have hpos := Bp.run_pos hok
    have hrun : ∀ k, k < n1 → ∃ p, Bp.RunAt ps lots seats k p := fun k hk => Bp.run_at hok (by rw [hlen.out]; exact hk)
    rw [hlen.out] at hend hpos
    rw [hl.out] at hend hm5 h3
    have hsz : ∀ k, ((Bp.transfer ps lots seats).getD k default).frs.length ≤ 1048576 := fun k => by
      by_cases hk : k < n1
      · obtain ⟨p, hp⟩ := hrun k hk
        unfold Bp.Stp.frs
        rw [Bp.frs_len, hp.law.len, hl.out]
        omega
      · have e0 : (Bp.transfer ps lots seats).getD k default = default := by unfold List.getD; rw [List.getElem?_eq_none (by rw [hlen.out]; omega)]; rfl
        rw [e0]; exact Nat.zero_le _
    have hcall := sameSteps_same _ _ n1 c1 n2 c2 (Bp.transfer ps lots seats) _ _ w3 hv hv2 (Nat.le_refl _) (Nat.le_refl _) (by omega) hsz
    have Hcall := Lib.hid hcall
    have Hrun := Lib.hid hrun
    have Hok := Lib.hid hok
    have Hlv := Lib.hid hlv
    have Hf := Lib.hid hf
    have Hend := Lib.hid hend
    clear hcall hrun hok hlv hf hsz hend
    go_wp2_with fail
    refine Hcall.out.mono ?_
    rintro e w4 ⟨rfl, hd4⟩
    have hb4 := hd4.below w3.heap.size
    have hs4 := hb4.size
    have hB4 := hB3.trans (hb4.mono (by omega))
    have hps4 := (hps3.below hb4).mono hs4
    have hlo4 := (hlo3.below hb4).mono hs4
    have hv4 := (hv.below hb4).mono hs4
    clear hv hv2 hps3 hlo3 hb4 hB3 hd4
    obtain ⟨i0, hi0, hz0, hz1, hz2⟩ := info_parts int_info
    go_wp2_with fail
    refine (iTransferWinners_any _ kp cp Al m cl seats ps lots _ hps4 (by omega) hcp hlo4 (by omega) hcl).mono ?_
    rintro e w5 ⟨A5, n5, c5, rfl, hc5, hn5, hownW, hb5⟩
    rw [sres_yes Hok.out] at hownW
    have hs5 := hb5.size
    have hB5 := hB4.trans (hb5.mono (by omega))
    have hv5 := (hv4.below hb5).mono hs5
    have hW5 := hownW.ints
    have hlW := hW5.1
    have hseats := Bp.twin_len Hok.out
    rw [hlW] at hseats
    have Hseats := Lib.hid hseats
    clear hseats
    have hgall := Bp.given_all (Bp.transfer ps lots seats)
    rw [hlen.out, hlW] at hgall
    have Hgall := Lib.hid hgall
    clear hps4 hlo4 hv4 hownW hb5 hlW hgall hB4
    go_wp2_with fail
    go_loopw [11, 12, 13] (fun sv nv i wr => ∃ j G cs : Nat, j ≤ n1 ∧ i = .int .i64 j ∧ nv = .int .i64 (Bp.given (Bp.transfer ps lots seats) j : Nat) ∧ Bp.given (Bp.transfer ps lots seats) j ≤ j ∧ sv = .slice (some ⟨G, 0, none⟩) j cs ∧ j ≤ cs ∧ Own wr w5.heap.size (.slice (some ⟨G, 0, none⟩) j cs) j (Bp.whos (Bp.transfer ps lots seats) j) ∧ Below w5.heap.size w5 wr) (fun _ _ i _ => n1 - (intOf i).toNat)
    case atStart => exact ⟨0, _, 0, Nat.zero_le _, rfl, by rw [Bp.given_zero]; rfl, by rw [Bp.given_zero]; exact Nat.le_refl _, rfl, Nat.le_refl _, own_emptyI (Nat.le_refl _), (by repeat (first | exact Below.refl _ _ | assumption | refine below_drewN ?_ _ | refine Below.drew ?_ | refine Below.alloc ?_ (by first | exact Nat.le_refl _ | omega | (simp; done) | (simp; omega)) _ | refine Below.setCell ?_ (by first | exact Nat.le_refl _ | omega | (simp; done) | (simp; omega)) _))⟩
    case round =>
      obtain ⟨j, G, cs, hj, rfl, rfl, hgj, rfl, hjc, hown, hb⟩ := hrel
      have hz := hb.size
      by_cases hlt : j < n1
      · obtain ⟨p, hp⟩ := Hrun.out j hlt
        obtain ⟨g, o, A3, m3, c3, who, kind, rfl, hg, k0, _, _, k1, k2, hwk⟩ := (hv5.below hb).at hlt
        have hjl : j < (Bp.transfer ps lots seats).length := by rw [hlen.out]; exact hlt
        have hnew := Bp.whos_new Hok.out hjl
        have hgat := Bp.given_at (Bp.transfer ps lots seats) hjl
        have hgs := Bp.given_succ (Bp.transfer ps lots seats) hjl
        have hws := Bp.whos_succ (Bp.transfer ps lots seats) hjl
        have hwp := hp.law.who
        have hpl := hp.law.lt
        rw [hwk.out.1] at hnew hgat hws hwp
        rw [hwk.out.2] at hgat hgs
        rw [hl.out] at hpl
        rw [(show (Bp.twin (Bp.transfer ps lots seats)).length = n5 from hW5.1)] at hgat
        subst hwp
        obtain ⟨gv, hgv⟩ : ∃ gv, Bp.given (Bp.transfer ps lots seats) j = gv := ⟨_, rfl⟩
        rw [hgv] at hgat hgs hgj ⊢
        have Hws := Lib.hid hws
        have Hgs := Lib.hid hgs
        have i1 : (0 : Int) ≤ (j : Int) := by omega
        have i2 : (j : Int) < (n1 : Int) := by omega
        have d1 : decide ((p : Int) < 0) = false := decide_eq_false (by omega)
        have d2 : decide ((m : Int) ≤ (p : Int)) = false := decide_eq_false (by omega)
        have hcall := hasInt_val (some ⟨G, 0, none⟩) j cs (p : Int) _ false hnew _ wr hown.ints (by omega)
        have Hcall := Lib.hid hcall
        have hal : Below wr.heap.size wr (wr.alloc (.cells #[.int .i64 (p : Int)] 3)) := (Below.refl _ _).alloc (Nat.le_refl _) _
        have hgw5 : g < w5.heap.size := by omega
        clear hnew hws hgs hp hwk hgv hcall
        by_cases hk2 : kind = 2
        · subst hk2
          go_wp2_with (first | (go_at_call 27; refine Hcall.out.mono ?_; rintro e w' ⟨rfl, rfl⟩) | (at_builtin; refine wpList_append_own _ rfl (.tmp 94) (.tmp 100) 23 rfl w5.heap.size 3 i0 _ 1 8 Try.underlying23 hi0 hz0 hz1 hz2 rfl (by decide) (.slice (some ⟨G, 0, none⟩) j cs) j _ rfl (hown.row.alloc _) ⟨wr.heap.size, 0, none⟩ 1 1 [.int .i64 (p : Int)] rfl rfl (cell_one_new _ _ _) (by simp [Value.oneCell']) (by unfold maxLen; omega) (by omega) (by simp; omega) ?_; intro v1 w6 hown6 hg6 hv6; obtain ⟨G6, c6, rfl, hnc6, hGb6⟩ := own_form' hown6 (fun e => by have := hv6.1 e; cases this.1); clear hv6; have hb6 : Below w5.heap.size w5 w6 := (hb.trans (hal.mono hz)).grown hg6 (by simp; omega) (fun g hg => (hown.row.lt g hg).1); have k3 := (hb6.cell (p := ⟨g, o + j * 3 + 2, none⟩) hgw5).trans ((hb.cell (p := ⟨g, o + j * 3 + 2, none⟩) hgw5).symm.trans k2)))
          go_roundw
          case rel => exact ⟨j + 1, G6, c6, by omega, by go_num, by rw [Hgs.out]; simp, by rw [Hgs.out]; simp; omega, rfl, hnc6, by rw [Hws.out]; unfold Own; rw [List.map_append]; exact hown6, hb6⟩
          case measure => simp [intOf]; omega
        · obtain ⟨hg1, hg2⟩ := hgat hk2
          have d0 : (kind != 2) = true := by simpa using hk2
          have i3 : (0 : Int) ≤ (gv : Int) := by omega
          have i4 : (gv : Int) < (n5 : Int) := by omega
          have d3 : decide ((n5 : Int) ≤ (gv : Int)) = false := decide_eq_false (by omega)
          have d4 : decide (n5 ≤ gv) = false := decide_eq_false (by omega)
          obtain ⟨gA, oA, zA, rfl, hgA, hcA, hzA⟩ := hW5.at hg1
          have hzA' : zA = (p : Int) := hzA.out.symm.trans hg2
          subst hzA'
          clear hgat hzA hg2
          go_wp2_with (first | (go_at_call 27; refine Hcall.out.mono ?_; rintro e w' ⟨rfl, rfl⟩) | (at_builtin; refine wpList_append_own _ rfl (.tmp 94) (.tmp 100) 23 rfl w5.heap.size 3 i0 _ 1 8 Try.underlying23 hi0 hz0 hz1 hz2 rfl (by decide) (.slice (some ⟨G, 0, none⟩) j cs) j _ rfl (hown.row.alloc _) ⟨wr.heap.size, 0, none⟩ 1 1 [.int .i64 (p : Int)] rfl rfl (cell_one_new _ _ _) (by simp [Value.oneCell']) (by unfold maxLen; omega) (by omega) (by simp; omega) ?_; intro v1 w6 hown6 hg6 hv6; obtain ⟨G6, c6, rfl, hnc6, hGb6⟩ := own_form' hown6 (fun e => by have := hv6.1 e; cases this.1); clear hv6; have hb6 : Below w5.heap.size w5 w6 := (hb.trans (hal.mono hz)).grown hg6 (by simp; omega) (fun g hg => (hown.row.lt g hg).1); have k3 := (hb6.cell (p := ⟨g, o + j * 3 + 2, none⟩) hgw5).trans ((hb.cell (p := ⟨g, o + j * 3 + 2, none⟩) hgw5).symm.trans k2); have k4 := (hb6.cell (p := ⟨g, o + j * 3 + 1, none⟩) hgw5).trans ((hb.cell (p := ⟨g, o + j * 3 + 1, none⟩) hgw5).symm.trans k1); have k5 := (hb6.cell (p := ⟨gA, oA + gv, none⟩) hgA).trans hcA))
          go_quiet (fail)
          go_wp2_with fail
          go_roundw
          case rel => exact ⟨j + 1, G6, c6, by omega, by go_num, by rw [Hgs.out, if_neg hk2]; go_num, by rw [Hgs.out, if_neg hk2]; omega, rfl, hnc6, by rw [Hws.out]; unfold Own; rw [List.map_append]; exact own_drawn hown6, below_drewN hb6 _⟩
          case measure => simp [intOf]; omega
      · have hjn : j = n1 := by omega
        have hgv : Bp.given (Bp.transfer ps lots seats) j = n5 := by rw [hjn]; exact Hgall.out
        rw [hgv]
        have d0 : ((n5 : Int) == seats) = true := by rw [beq_iff_eq]; exact Hseats.out
        clear hgv
        go_wp2_with fail
        go_ret
        exact ⟨rfl, hB5.trans (hb.mono (by omega))⟩
end Go.Proofs.Ytiglkajafdecgaa
