/-
  The walk of FnTransferSum.
-/
import Derived.Test.YtiglkajafdecgaaLawTransKit
import Derived.Test.YtiglkajafdecgaaDrawTrans
import Derived.Test.YtiglkajafdecgaaTransRun
import Derived.Test.YtiglkajafdecgaaTransRunS
import Derived.Deep.DeepCutAuto
import Derived.Test.YtiglkajafdecgaaTransLess
import Derived.Test.YtiglkajafdecgaaLawFracSum
namespace Go.Proofs.Ytiglkajafdecgaa
set_option linter.unusedVariables false
open Go.RowKit

set_option maxRecDepth 100000 in
set_option maxHeartbeats 8000000 in
theorem lawTransferSum_any (A : Option Addr) (n c : Nat) (w : World) (h : Bytes w w.heap.size A n) (hn : n ≤ 9223372036854775807) (hc : n ≤ c) :
    Calls Try.prog 7 #[.slice A n c] w fun e w' => e = .returned (.bool true) ∧ Below w.heap.size w w' := by
  by_cases hb : 1048576 < n
  · go_enter Try.func7, Try.ntmps7
    go_wp2_with fail
    go_ret
    exact ⟨rfl, Below.refl _ _⟩
  go_enter Try.func7, Try.ntmps7
  go_wp2_with fail
  refine (drawTransferSteps_some A n c _ h hn hc).mono ?_
  rintro e w1 ⟨gp, kp, cp, Al, m, cl, ps, lots, seats, rfl, hcp, hkp, hcl, hml, hse, hps, hlo, hb1⟩
  have hs1 := hb1.size
  go_wp2_with fail
  refine (iTransferSteps_any _ kp cp Al m cl seats ps lots _ hps (by omega) hcp hlo (by omega) hcl).mono ?_
  rintro e w2 ⟨A1, n1, c1, rfl, hc1, hn1, hown, hb2⟩
  have hs2 := hb2.size
  have hps2 := (hps.below hb2).mono hs2
  have hlo2 := (hlo.below hb2).mono hs2
  have hB2 := hb1.trans (hb2.mono hs1)
  go_wp2_with fail
  refine (sTransferSteps_any _ kp cp Al m cl seats ps lots _ hps2 (by omega) hlo2 (by omega) hcl).mono ?_
  rintro e w3 ⟨A2, n2, c2, rfl, hc2, hn2, hown2, hb3⟩
  have hs3 := hb3.size
  have hps3 := (hps2.below hb3).mono hs3
  have hlo3 := (hlo2.below hb3).mono hs3
  have hB3 := hB2.trans (hb3.mono (by omega))
  have hv1 := hown.view
  have hv := (hv1.below hb3).mono hs3
  have hv2 := hown2.view
  have hl := Lib.hid hlo.1
  clear hps hps2 hlo2 hlo hown2 hv1 hown
  cases hok : Bp.tval ps lots seats
  · rw [hok, sres_no rfl] at hv hv2
    have hcall2 := fun q => sameSteps_same _ _ n1 c1 n2 c2 [] _ _ (w3.drewN q) (hv.below (Drawn.below ((Drawn.refl w3).drewN q) _)) (hv2.below (Drawn.below ((Drawn.refl w3).drewN q) _)) (by simp) (by simp) (by omega) (fun k => by show (default : Bp.Stp).frs.length ≤ _; exact Nat.zero_le _)
    have hcall := sameSteps_same _ _ n1 c1 n2 c2 [] _ _ w3 hv hv2 (Nat.le_refl _) (Nat.le_refl _) (by omega) (fun k => by show (default : Bp.Stp).frs.length ≤ _; exact Nat.zero_le _)
    have Hcall := Lib.hid hcall
    have Hcall2 := Lib.hid hcall2
    clear hok hcall hcall2
    go_wp2_with fail
    refine Hcall.out.mono ?_
    rintro e w4 ⟨rfl, hd4⟩
    obtain ⟨q4, rfl⟩ := hd4
    go_wp2_with fail
    refine (Hcall2.out q4).mono ?_
    rintro e w5 ⟨rfl, hd5⟩
    go_wp2_with fail
    go_ret
    exact ⟨rfl, (hB3.trans (Drawn.below ((Drawn.refl w3).drewN q4) _)).trans (hd5.below _)⟩
  · obtain ⟨hlv, hf, ⟨h1, h2, h3⟩, hpsum⟩ := (Bp.tval_iff ps lots seats).1 hok
    have hm5 := Bp.lval_n hlv
    rw [sres_yes hok] at hv hv2
    have hlen := Lib.hid hv.1
    have hend := Bp.run_end hok
    have hpos := Bp.run_pos hok
    have hrun : ∀ k, k < n1 → ∃ p, Bp.RunAt ps lots seats k p := fun k hk => Bp.run_at hok (by rw [hlen.out]; exact hk)
    rw [hlen.out] at hend hpos
    rw [hl.out] at hend hm5 h3
    have hsz : ∀ k, ((Bp.transfer ps lots seats).getD k default).frs.length ≤ 1048576 := fun k => by
      by_cases hk : k < n1
      · obtain ⟨p, hp⟩ := hrun k hk
        unfold Bp.Stp.frs
        rw [Bp.frs_len, hp.law.len, hl.out]
        omega
      · have e0 : (Bp.transfer ps lots seats).getD k default = default := by unfold List.getD; rw [List.getElem?_eq_none (by rw [hlen.out]; omega)]; rfl
        rw [e0]; exact Nat.zero_le _
    have hcall := sameSteps_same _ _ n1 c1 n2 c2 (Bp.transfer ps lots seats) _ _ w3 hv hv2 (Nat.le_refl _) (Nat.le_refl _) (by omega) hsz
    have Hcall := Lib.hid hcall
    have Hrun := Lib.hid hrun
    have Hok := Lib.hid hok
    have Hlv := Lib.hid hlv
    have Hf := Lib.hid hf
    have Hpv := Lib.hid (Bp.fits_val hf)
    have Hend := Lib.hid hend
    clear hcall hrun hok hlv hf hsz hend
    go_wp2_with fail
    refine Hcall.out.mono ?_
    rintro e w4 ⟨rfl, hd4⟩
    have hb4 := hd4.below w3.heap.size
    have hs4 := hb4.size
    have hB4 := hB3.trans (hb4.mono (by omega))
    have hps4 := (hps3.below hb4).mono hs4
    have hlo4 := (hlo3.below hb4).mono hs4
    have hv4 := (hv.below hb4).mono hs4
    clear hv hv2 hps3 hlo3 hb4 hB3 hd4
    have hpt := Bp.ptotal_yes Hpv.out
    have hpb := Bp.psum_bd Hpv.out
    have hqb := Bp.tquota_bd Hpv.out hpsum h1
    have hqq : Fp.quota (Bp.psum ps) seats = Bp.tquota ps seats := Fp.quota_in _ _ ((Fp.inr_iff _ _ _).2 ⟨hpb.1, hpsum⟩) ((Fp.inr_iff _ _ _).2 ⟨h1, h2⟩)
    obtain ⟨tot, htot⟩ : ∃ tot, Bp.psum ps = tot := ⟨_, rfl⟩
    obtain ⟨q, hqe⟩ : ∃ q, Bp.tquota ps seats = q := ⟨_, rfl⟩
    rw [htot] at hpt hqq hpsum hpb
    rw [hqe] at hqq hqb
    have Hpt := Lib.hid hpt
    have Hqq := Lib.hid hqq
    have Htot := Lib.hid htot
    have Hqe := Lib.hid hqe
    have hvq : Fp.vld q 1 = true := by
      have := Bp.fr_vld (d := 1) (n := q) (by omega) (by omega) (by omega) (by omega)
      rwa [Bp.fr_one] at this
    have Hvq := Lib.hid hvq
    clear hpt hqq htot hqe hvq
    have hq0 : decide (0 < q) = true := decide_eq_true (by omega)
    have hvt : Fp.vld tot 1 = true := by
      have := Bp.fr_vld (d := 1) (n := tot) (by omega) (by omega) (by omega) (by omega)
      rwa [Bp.fr_one] at this
    have Hvt := Lib.hid hvt
    clear hvt
    go_wp2_with fail
    refine (iPilesTotal_yes _ kp cp ps tot Hpt.out _ hps4 (by omega) hcp).mono ?_
    rintro e w5 ⟨rfl, hb5⟩
    have hs5 := hb5.size
    have hB5 := hB4.trans (hb5.mono (by omega))
    have hv5 := (hv4.below hb5).mono hs5
    have hps5 := (hps4.below hb5).mono hs5
    clear hb5 hv4 hps4 hlo4 hB4
    go_wp2_with fail
    refine (iQuota_yes tot seats q Hqq.out w5).mono ?_
    rintro e w' ⟨rfl, rfl⟩
    go_wp2_with fail
    refine (iPilesTotal_yes _ kp cp ps tot Hpt.out _ hps5 (by omega) hcp).mono ?_
    rintro e w6 ⟨rfl, hb6⟩
    have hs6 := hb6.size
    have hB6 := hB5.trans (hb6.mono (by omega))
    have hv6 := (hv5.below hb6).mono hs6
    clear hb6 hv5 hps5 hB5
    go_upto_region 10 with (fail)
    obtain ⟨wq, hwq⟩ : ∃ wq, w6.alloc (.cells #[.int .i64 tot, .int .i64 1] 44) = wq := ⟨_, rfl⟩
    have hbq : Below w6.heap.size w6 wq := by rw [← hwq]; exact (Below.refl _ _).alloc (Nat.le_refl _) _
    have hF0 : Bx wq [(⟨w6.heap.size, 0, none⟩, .int .i64 tot), (⟨w6.heap.size, 1, none⟩, .int .i64 1)] := by rw [← hwq]; simp [Bx, go_sem]
    have hvw := hv6.below hbq
    have hBq := hB6.trans (hbq.mono hB6.size)
    obtain ⟨Qb, hQb⟩ : ∃ Qb, w6.heap.size = Qb := ⟨_, rfl⟩
    have hwQ : w.heap.size ≤ Qb := by have := hB6.size; omega
    rw [hwq]
    rw [hQb] at hF0 hvw ⊢
    clear hwq hbq hv6 hB6 hQb
    have hS0 : Bp.sumsTo ps q (Bp.transfer ps lots seats) 0 = (tot, 1) := by rw [← Htot.out]; rfl
    have HS0 := Lib.hid hS0
    clear hS0
    go_wp2_with fail
    go_loopw [12] (fun i wr => ∃ (j : Nat) (a b : Int), j ≤ n1 ∧ i = .int .i64 j ∧ Hid (Bp.sumsTo ps q (Bp.transfer ps lots seats) j = (a, b)) ∧ Hid (Fp.vld a b = true) ∧ Bx wr [(⟨Qb, 0, none⟩, .int .i64 a), (⟨Qb, 1, none⟩, .int .i64 b)] ∧ Below Qb wq wr) (fun i _ => n1 - (intOf i).toNat)
    case atStart => exact ⟨0, tot, 1, Nat.zero_le _, rfl, HS0.out, Hvt.out, hF0, Below.refl _ _⟩
    case round =>
      obtain ⟨j, a, b, hj, rfl, hab, hva, hx, hb⟩ := hrel
      have hz := hb.size
      clear hF0
      by_cases hlt : j < n1
      · obtain ⟨p, hp⟩ := Hrun.out j hlt
        obtain ⟨g, o, A3, m3, c3, who, kind, rfl, hg, k0, hmc3, hF, k1, k2, hwk⟩ := (hvw.below hb).at hlt
        have hpl := hp.law.lt
        have hnsl := hp.law.len
        have hD1 := hp.law.d1
        have hD60 := hp.law.d60
        have hbd := hp.law.bd
        rw [hl.out] at hpl hnsl
        have hm3 : m = m3 := by
          have := hF.1
          unfold Bp.Stp.frs at this
          rw [Bp.frs_len] at this
          omega
        subst hm3
        have hless := Bp.sums_less Hok.out (k := j) (by rw [hlen.out]; exact hlt)
        rw [Hqe.out, hab.out, hl.out] at hless
        have hF' : Fracs wr Qb A3 m (Bp.frs ((Bp.transfer ps lots seats).getD j default).d ((Bp.transfer ps lots seats).getD j default).ns) := hF
        have hsn : Bp.sumsTo ps q (Bp.transfer ps lots seats) (j + 1) = Bp.fr ((Bp.transfer ps lots seats).getD j default).d (Bp.addUp ((Bp.transfer ps lots seats).getD j default).ns m - if kind = 1 then q * ((Bp.transfer ps lots seats).getD j default).d else 0) := by
          rw [Bp.sumsTo, hnsl, hwk.out.2]
        obtain ⟨ns, hns⟩ : ∃ ns, ((Bp.transfer ps lots seats).getD j default).ns = ns := ⟨_, rfl⟩
        obtain ⟨D, hD⟩ : ∃ D, ((Bp.transfer ps lots seats).getD j default).d = D := ⟨_, rfl⟩
        simp only [hns, hD] at hless hF' hsn hbd hnsl hD1 hD60
        have hsb := Bp.addUp_bd5 hbd hD1 hD60 (k := m) (by omega)
        have hQr : Qb < wr.heap.size := by
          have hx' := hx
          simp only [Bx, and_true] at hx'
          exact lt_of_cell hx'.1.1
        have hcall := fracSum_any A3 m c3 D ns wr (hF'.mono (by omega)) hD1 hD60 (by omega) hbd
        have hvx := Bp.fr_vld (d := D) (n := Bp.addUp ns m) hD1 (by omega) (by omega) (by omega)
        have hadd := frs_add1 (d := D) (a := Bp.addUp ns m) (b := -q) hD1 hD60 (by omega) (by omega)
        obtain ⟨S, hS⟩ : ∃ S, Bp.addUp ns m = S := ⟨_, rfl⟩
        rw [hS] at hless hsn hcall hvx hadd hsb
        obtain ⟨x, y, hxy⟩ : ∃ x y, Bp.fr D S = (x, y) := ⟨_, _, rfl⟩
        rw [hxy] at hless hcall hvx hadd
        dsimp only at hless hcall hvx hadd
        have Hless := Lib.hid hless
        have Hcall := Lib.hid hcall
        have Hvx := Lib.hid hvx
        have i1 : (0 : Int) ≤ (j : Int) := by omega
        have i2 : (j : Int) < (n1 : Int) := by omega
        have hgr : g < wr.heap.size := by omega
        clear hless hcall hvx hp hwk hns hD hbd hF hF' hnsl hS
        go_wp2_with fail
        refine Hcall.out.mono ?_
        rintro e w7 ⟨rfl, hb7⟩
        have hz7 := hb7.size
        have hB7 : Below Qb wq w7 := hb.trans (hb7.mono (by omega))
        have F7 := Bx.later hb7 hx
        have a2 := (hb7.cell (p := ⟨g, o + j * 3 + 2, none⟩) hgr).trans k2
        have G7 := F7
        simp only [Bx, and_true] at G7
        have t1 : ¬ Qb = w7.heap.size := by omega
        have t2 : ¬ w7.heap.size = Qb := by omega
        have t3 : ¬ g = w7.heap.size := by omega
        have t4 : ¬ w7.heap.size = g := by omega
        have t5 : ¬ g = Qb := by omega
        have t6 : ¬ Qb = g := by omega
        have l1 : Qb < w7.heap.size := by omega
        have l2 : g < w7.heap.size := by omega
        clear hb hx hb7 k0 k1 k2
        go_wp2_with fail
        refine (iFracLess_any a b x y _ hva.out Hvx.out).mono ?_
        rw [Hless.out]
        rintro e w8 ⟨rfl, hb8⟩
        have hz8 := hb8.size
        simp at hz8
        have hB8 : Below Qb wq w8 := (hB7.alloc (by omega) _).trans (hb8.mono (by simp; omega))
        have F8 : Bx w8 [(⟨Qb, 0, none⟩, .int .i64 a), (⟨Qb, 1, none⟩, .int .i64 b), (⟨w7.heap.size, 0, none⟩, .int .i64 x), (⟨w7.heap.size, 1, none⟩, .int .i64 y)] := Bx.later hb8 (by simp [Bx, go_sem, G7, l1])
        have G8 := F8
        simp only [Bx, and_true] at G8
        have b2 : w8.cell? ⟨g, o + j * 3 + 2, none⟩ = some (.int .i64 kind) := (hb8.cell (p := ⟨g, o + j * 3 + 2, none⟩) (by simp; omega)).trans (by simp [go_sem, a2, l2])
        clear G7 F7 a2 hB7 hb8
        by_cases hk1 : kind = 1
        · subst hk1
          rw [if_pos rfl, show S - q * D = S + (-q) * D by rw [Int.neg_mul]; omega] at hsn
          have hv9 : Fp.vld (Bp.fr D (S + (-q) * D)).1 (Bp.fr D (S + (-q) * D)).2 = true := by
            have h1 : (q * D).natAbs ≤ 100 * 60 := by rw [Int.natAbs_mul]; exact Nat.mul_le_mul (by omega) (by omega)
            refine Bp.fr_vld hD1 (by omega) ?_ ?_
            · rw [Int.neg_mul]; omega
            · rw [Int.neg_mul]; omega
          obtain ⟨u, v, huv⟩ : ∃ u v, Bp.fr D (S + (-q) * D) = (u, v) := ⟨_, _, rfl⟩
          rw [huv] at hsn hadd hv9
          dsimp only at hadd hv9
          have Hadd := Lib.hid hadd
          have Hsn := Lib.hid hsn
          have Hv9 := Lib.hid hv9
          clear hadd hsn huv hv9 hxy
          go_wp2_with fail
          with_reducible refine (iFracAdd_any x y (-q) 1 _).mono ?_
          rw [Hadd.out]
          rintro e w9 ⟨rfl, hb9⟩
          have hz9 := hb9.size
          simp at hz9
          have hB9 : Below Qb wq w9 := ((hB8.setCell (Nat.le_refl _) _).setCell (Nat.le_refl _) _).trans (hb9.mono (by simp; omega))
          have F9 : Bx w9 [(⟨Qb, 0, none⟩, .int .i64 x), (⟨Qb, 1, none⟩, .int .i64 y)] := Bx.later hb9 (by simp [Bx, go_sem, G8])
          have G9 := F9
          simp only [Bx, and_true] at G9
          have t7 : ¬ Qb = w9.heap.size := by omega
          have t8 : ¬ w9.heap.size = Qb := by omega
          have l3 : Qb < w9.heap.size := by omega
          clear G8 F8 hb9
          go_wp2_with fail
          go_roundw
          case rel => exact ⟨j + 1, u, v, by omega, by go_num, Hsn.out, Hv9.out, by simp [Bx, go_sem, G9, l3], ((hB9.setCell (Nat.le_refl _) _).setCell (Nat.le_refl _) _).alloc (by simp; omega) _⟩
          case measure => simp [intOf]; omega
        · have d0 : (kind == 1) = false := by simpa using hk1
          rw [if_neg hk1, Int.sub_zero, hxy] at hsn
          have Hsn := Lib.hid hsn
          clear hsn hadd hxy
          go_wp2_with fail
          go_roundw
          case rel => exact ⟨j + 1, x, y, by omega, by go_num, Hsn.out, Hvx.out, by simp [Bx, go_sem, G8], (hB8.setCell (Nat.le_refl _) _).setCell (Nat.le_refl _) _⟩
          case measure => simp [intOf]; omega
      · go_wp2_with fail
        go_ret
        exact ⟨rfl, hBq.trans (hb.mono hwQ)⟩
end Go.Proofs.Ytiglkajafdecgaa
