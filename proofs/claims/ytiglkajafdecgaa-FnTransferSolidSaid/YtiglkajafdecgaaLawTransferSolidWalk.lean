/-
  The walk of FnTransferSolid.
-/
import Derived.Test.YtiglkajafdecgaaLawTransKit
import Derived.Test.YtiglkajafdecgaaDrawTrans
import Derived.Test.YtiglkajafdecgaaTransRun
import Derived.Test.YtiglkajafdecgaaTransRunS
import Derived.Deep.DeepCutAuto
namespace Go.Proofs.Ytiglkajafdecgaa
set_option linter.unusedVariables false
open Go.RowKit

theorem pair_ints (w : World) (x y : Int) (t : TypeId) : Ints (w.alloc (.cells #[.int .i64 x, .int .i64 y] t)) (w.heap.size + 1) (some ⟨w.heap.size, 0, none⟩) 2 [x, y] :=
  ⟨rfl, fun _ => ⟨w.heap.size, 0, rfl, by omega, fun k hk => by
    rcases (show k = 0 ∨ k = 1 by omega) with rfl | rfl
    · simp [go_sem]
    · simp [go_sem]⟩⟩
theorem solid_bd {ps : List Bp.Pile} (hv : Bp.psval ps = true) (x y : Int) : ∀ k, k ≤ ps.length → 0 ≤ Bp.solidTo ps x y k ∧ Bp.solidTo ps x y k ≤ Bp.sumTo ps k
  | 0, _ => ⟨Int.le_refl _, Int.le_refl _⟩
  | k + 1, hk => by
    have ih := solid_bd hv x y k (by omega)
    have h1 := (Bp.pval_iff _).1 (Bp.psval_at ps hv k (by omega))
    rw [Bp.solidTo, Bp.sumTo]
    split <;> omega
theorem solid_two {b : List Int} {x y : Int} {v0 v1 : Bool} (h0 : Bp.has [x, y] (b.getD 0 0) = v0) (h1 : Bp.has [x, y] (b.getD 1 0) = v1) : Bp.solid b x y = (decide (1 < b.length) && (v0 && v1)) := by
  subst h0; subst h1
  simp [Bp.solid, Bp.has]

set_option maxRecDepth 100000 in
set_option maxHeartbeats 8000000 in
theorem lawTransferSolid_any (A : Option Addr) (n c : Nat) (w : World) (h : Bytes w w.heap.size A n) (hn : n ≤ 9223372036854775807) (hc : n ≤ c) :
    Calls Try.prog 8 #[.slice A n c] w fun e w' => e = .returned (.bool true) ∧ Below w.heap.size w w' := by
  by_cases hb : 1048576 < n
  · go_enter Try.func8, Try.ntmps8
    go_wp2_with fail
    go_ret
    exact ⟨rfl, Below.refl _ _⟩
  go_enter Try.func8, Try.ntmps8
  go_wp2_with fail
  refine (drawTransferWinners_some A n c _ h hn hc).mono ?_
  rintro e w1 ⟨gp, kp, cp, Al, m, cl, ps, lots, seats, rfl, hcp, hkp, hcl, hml, hse, hps, hlo, hb1⟩
  have hs1 := hb1.size
  go_wp2_with fail
  refine (iTransferWinners_any _ kp cp Al m cl seats ps lots _ hps (by omega) hcp hlo (by omega) hcl).mono ?_
  rintro e w2 ⟨A1, n1, c1, rfl, hc1, hn1, hown, hb2⟩
  have hs2 := hb2.size
  have hps2 := (hps.below hb2).mono hs2
  have hlo2 := (hlo.below hb2).mono hs2
  have hB2 := hb1.trans (hb2.mono hs1)
  go_wp2_with fail
  refine (sTransferWinners_any _ kp cp Al m cl seats ps lots _ hps2 (by omega) hlo2 (by omega) hcl).mono ?_
  rintro e w3 ⟨A2, n2, c2, rfl, hc2, hn2, hown2, hb3⟩
  have hs3 := hb3.size
  have hps3 := (hps2.below hb3).mono hs3
  have hB3 := hB2.trans (hb3.mono (by omega))
  have hv := (hown.ints.below hb3).mono hs3
  have hv2 := hown2.ints
  have hl := Lib.hid hlo.1
  have hlp := Lib.hid hps.1.1
  have hcall := sameInts_any A1 A2 n1 c1 n2 c2 _ _ _ _ w3 hv hv2 (by omega)
  rw [decide_eq_true rfl] at hcall
  have Hcall := Lib.hid hcall
  clear hps hps2 hlo2 hlo hown2 hown hcall
  cases hok : Bp.tval ps lots seats
  · have hn20 : n2 = 0 := by
      have := hv2.1
      rw [hok, sres_no rfl, Bp.twin_nil] at this
      simpa using this.symm
    have hcall2 := fun q => sameInts_any A1 A2 n1 c1 n2 c2 _ _ _ _ (w3.drewN q) (hv.below (Drawn.below ((Drawn.refl w3).drewN q) _)) (hv2.below (Drawn.below ((Drawn.refl w3).drewN q) _)) (by omega)
    simp only [decide_true] at hcall2
    have Hcall2 := Lib.hid hcall2
    clear hok hcall2 hv hv2
    subst hn20
    go_wp2_with fail
    refine Hcall.out.mono ?_
    rintro e w4 ⟨rfl, hd4⟩
    obtain ⟨q4, rfl⟩ := hd4
    go_wp2_with fail
    refine (Hcall2.out q4).mono ?_
    rintro e w5 ⟨rfl, hd5⟩
    go_wp2_with fail
    go_ret
    exact ⟨rfl, (hB3.trans (Drawn.below ((Drawn.refl w3).drewN q4) _)).trans (hd5.below _)⟩
  · obtain ⟨hlv, hf, ⟨h1, h2, h3⟩, hpsum⟩ := (Bp.tval_iff ps lots seats).1 hok
    have hseats := Bp.twin_len hok
    rw [hok, sres_yes rfl] at hv hv2
    have hn2s := hv2.1
    have hn20 : ¬ n2 = 0 := by omega
    have hz20 : ((n2 : Int) == 0) = false := by simpa using hn20
    have Hsolid := Lib.hid (Bp.transfer_solid hok)
    have Hpv := Lib.hid (Bp.fits_val hf)
    have Hbd := Lib.hid (fun x y k hk => solid_bd Hpv.out x y k hk)
    have hpt := Bp.ptotal_yes Hpv.out
    have hpb := Bp.psum_bd Hpv.out
    have hqb := Bp.tquota_bd Hpv.out hpsum h1
    have hqq : Fp.quota (Bp.psum ps) seats = Bp.tquota ps seats := Fp.quota_in _ _ ((Fp.inr_iff _ _ _).2 ⟨hpb.1, hpsum⟩) ((Fp.inr_iff _ _ _).2 ⟨h1, h2⟩)
    obtain ⟨tot, htot⟩ : ∃ tot, Bp.psum ps = tot := ⟨_, rfl⟩
    obtain ⟨q, hqe⟩ : ∃ q, Bp.tquota ps seats = q := ⟨_, rfl⟩
    rw [htot] at hpt hqq hpsum hpb
    rw [hqe] at hqq hqb
    have Hpt := Lib.hid hpt
    have Hqq := Lib.hid hqq
    have Htot := Lib.hid htot
    have Hqe := Lib.hid hqe
    clear hpt hqq htot hqe hok hlv hf hseats hn2s hv2
    go_wp2_with fail
    refine Hcall.out.mono ?_
    rintro e w4 ⟨rfl, hd4⟩
    have hb4 := hd4.below w3.heap.size
    have hs4 := hb4.size
    have hB4 := hB3.trans (hb4.mono (by omega))
    have hps4 := (hps3.below hb4).mono hs4
    have hv4 := (hv.below hb4).mono hs4
    clear hv hps3 hb4 hB3 hd4
    go_wp2_with fail
    refine (iPilesTotal_yes _ kp cp ps tot Hpt.out _ hps4 (by omega) hcp).mono ?_
    rintro e w5 ⟨rfl, hb5⟩
    have hs5 := hb5.size
    have hB5 := hB4.trans (hb5.mono (by omega))
    have hv5 := (hv4.below hb5).mono hs5
    have hps5 := (hps4.below hb5).mono hs5
    clear hb5 hv4 hps4 hB4
    go_wp2_with fail
    refine (iQuota_yes tot seats q Hqq.out w5).mono ?_
    rintro e w' ⟨rfl, rfl⟩
    go_wp2_with fail
    go_loopw [9] (fun xv wr => ∃ x : Nat, x ≤ m ∧ xv = .int .i64 x ∧ Below w5.heap.size w5 wr) (fun i _ => m - (intOf i).toNat)
    case atStart => exact ⟨0, Nat.zero_le _, rfl, Below.refl _ _⟩
    case round =>
      obtain ⟨x, hx, rfl, hb⟩ := hrel
      obtain ⟨wo, rfl⟩ : ∃ wo : World, wo = wr := ⟨_, rfl⟩
      by_cases hxm : x < m
      · go_wp2_with fail
        go_loopw [10] (fun yv wr => ∃ y : Nat, y ≤ x ∧ yv = .int .i64 y ∧ Below w5.heap.size w5 wr) (fun i _ => x - (intOf i).toNat)
        case atStart => exact ⟨0, Nat.zero_le _, rfl, hb⟩
        case round =>
          obtain ⟨y, hy, rfl, hby⟩ := hrel
          clear hb
          obtain ⟨wi, rfl⟩ : ∃ wi : World, wi = wr := ⟨_, rfl⟩
          by_cases hyx : y < x
          · go_wp2_with fail
            go_loopw [11, 12] (fun mv iv wr => ∃ (k : Nat) (z : Int), k ≤ kp ∧ iv = .int .i64 k ∧ mv = .int .i64 z ∧ Hid (Bp.solidTo ps (x : Int) (y : Int) k = z) ∧ (0 ≤ z ∧ z ≤ 60) ∧ Below w5.heap.size w5 wr) (fun _ i _ => kp - (intOf i).toNat)
            case atStart => exact ⟨0, 0, Nat.zero_le _, rfl, rfl, rfl, by omega, hby⟩
            case round =>
              obtain ⟨k, z, hk, rfl, rfl, hz, hzb, hbi⟩ := hrel
              have hsi := hbi.size
              clear hby
              by_cases hkp2 : k < kp
              · obtain ⟨gl, o, s, v, hgl, hglw, hcs, hcv, hss, hp⟩ := (hps5.below hbi).at hkp2
                injection hgl with hgl
                injection hgl with e1 e2
                subst e1; subst e2
                simp only [Nat.zero_add] at hcs hcv
                have hsd := Hbd.out (x : Int) (y : Int) (k + 1) (by rw [hlp.out]; omega)
                have hsm := Bp.sumTo_le Hpv.out (k := k + 1) (by rw [hlp.out]; omega)
                rw [show Bp.psum ps = tot from Htot.out] at hsm
                have hstep : Bp.solidTo ps (x : Int) (y : Int) (k + 1) = if Bp.solid (Bp.bal s) x y then z + v else z := by
                  rw [Bp.solidTo, hp.out, hz.out]
                rw [hstep] at hsd
                have Hstep := Lib.hid hstep
                have i1 : (0 : Int) ≤ (k : Int) := by omega
                have i2 : (k : Int) < (kp : Int) := by omega
                have hglr : gp < wr.heap.size := by omega
                clear hstep hp hz
                go_wp2_with fail
                refine (iBallotParse_any s _ hss).mono ?_
                rintro e w6 ⟨A6, n6, c6, rfl, hnc6, hown6, hb6⟩
                have hs6 := hb6.size
                have hB6 : Below w5.heap.size w5 w6 := hbi.trans (hb6.mono hsi)
                have cv : w6.cell? ⟨gp, k * 2 + 1, none⟩ = some (.int .i64 v) := cell_later hb6 hcv
                have hn65 : n6 ≤ 5 := by have h8 := Bp.bal_len s; have h9 := hown6.len; omega
                have hl6 := Lib.hid hown6.len
                have hi6 := hown6.ints
                clear hbi hb6 hcs hcv hown6
                by_cases hL : 1 < n6
                · obtain ⟨g6, o6, z0, rfl, hg6, c0, hz0⟩ := hi6.at (show 0 < n6 by omega)
                  obtain ⟨g6', o6', z1, hA6, _, c1', hz1⟩ := hi6.at hL
                  injection hA6 with hA6
                  injection hA6 with e1 e2
                  subst e1; subst e2
                  simp only [Nat.add_zero] at c0
                  obtain ⟨v0, hv0⟩ : ∃ v0, Bp.has [(x : Int), (y : Int)] z0 = v0 := ⟨_, rfl⟩
                  obtain ⟨v1, hv1⟩ : ∃ v1, Bp.has [(x : Int), (y : Int)] z1 = v1 := ⟨_, rfl⟩
                  have hsol : Bp.solid (Bp.bal s) x y = (v0 && v1) := by
                    rw [solid_two (v0 := v0) (v1 := v1) (by rw [hz0.out]; exact hv0) (by rw [hz1.out]; exact hv1), hl6.out, decide_eq_true hL, Bool.true_and]
                  have hcall0 := hasInt_val (some ⟨w6.heap.size, 0, none⟩) 2 2 z0 _ v0 hv0 _ _ (pair_ints w6 (x : Int) (y : Int) 3) (by omega)
                  have hpi := pair_ints (w6.alloc (.cells #[.int .i64 (x : Int), .int .i64 (y : Int)] 3)) (x : Int) (y : Int) 3
                  rw [World.size_alloc] at hpi
                  have hcall1 := hasInt_val (some ⟨w6.heap.size + 1, 0, none⟩) 2 2 z1 _ v1 hv1 _ _ hpi (by omega)
                  have Hcall0 := Lib.hid hcall0
                  have Hcall1 := Lib.hid hcall1
                  have t1 : ¬ g6 = w6.heap.size := by omega
                  have t2 : ¬ w6.heap.size = g6 := by omega
                  have t3 : ¬ g6 = w6.heap.size + 1 := by omega
                  have t4 : ¬ w6.heap.size + 1 = g6 := by omega
                  have t5 : ¬ gp = w6.heap.size := by omega
                  have t6 : ¬ w6.heap.size = gp := by omega
                  have t7 : ¬ gp = w6.heap.size + 1 := by omega
                  have t8 : ¬ w6.heap.size + 1 = gp := by omega
                  have l1 : gp < w6.heap.size := by omega
                  have l2 : gp < w6.heap.size + 1 := by omega
                  have l3 : g6 < w6.heap.size + 1 := by omega
                  rw [hsol] at hsd
                  have Hsol := Lib.hid hsol
                  clear hsol hcall0 hcall1 hv0 hv1 hz0 hz1 hi6 hpi
                  have hB7 : Below w5.heap.size w5 (w6.alloc (.cells #[.int .i64 (x : Int), .int .i64 (y : Int)] 3)) := hB6.alloc (by omega) _
                  have hB8 := hB7.alloc (show w5.heap.size ≤ _ by simp; omega) (.cells #[.int .i64 (x : Int), .int .i64 (y : Int)] 3)
                  cases v0
                  · rw [Bool.false_and, if_neg (by decide)] at hsd
                    have Hsn := Lib.hid (show Bp.solidTo ps (x : Int) (y : Int) (k + 1) = z by rw [Hstep.out, Hsol.out, Bool.false_and, if_neg (by decide)])
                    go_wp2_with fail
                    refine Hcall0.out.mono ?_
                    rintro e w' ⟨rfl, rfl⟩
                    go_wp2_with fail
                    go_roundw
                    case rel => exact ⟨k + 1, z, by omega, by go_num, rfl, Hsn.out, by omega, hB7⟩
                    case measure => simp [intOf]; omega
                  · rw [Bool.true_and] at hsd
                    cases v1
                    · rw [if_neg (by decide)] at hsd
                      have Hsn := Lib.hid (show Bp.solidTo ps (x : Int) (y : Int) (k + 1) = z by rw [Hstep.out, Hsol.out, Bool.true_and, if_neg (by decide)])
                      go_wp2_with fail
                      refine Hcall0.out.mono ?_
                      rintro e w' ⟨rfl, rfl⟩
                      go_wp2_with fail
                      refine Hcall1.out.mono ?_
                      rintro e w' ⟨rfl, rfl⟩
                      go_wp2_with fail
                      go_roundw
                      case rel => exact ⟨k + 1, z, by omega, by go_num, rfl, Hsn.out, by omega, hB8⟩
                      case measure => simp [intOf]; omega
                    · rw [if_pos rfl] at hsd
                      have Hsn := Lib.hid (show Bp.solidTo ps (x : Int) (y : Int) (k + 1) = z + v by rw [Hstep.out, Hsol.out, Bool.true_and, if_pos rfl])
                      go_wp2_with fail
                      refine Hcall0.out.mono ?_
                      rintro e w' ⟨rfl, rfl⟩
                      go_wp2_with fail
                      refine Hcall1.out.mono ?_
                      rintro e w' ⟨rfl, rfl⟩
                      go_wp2_with fail
                      go_roundw
                      case rel => exact ⟨k + 1, z + v, by omega, by go_num, by go_num, Hsn.out, by omega, hB8⟩
                      case measure => simp [intOf]; omega
                · have Hsn : Hid (Bp.solidTo ps (x : Int) (y : Int) (k + 1) = z) := by
                    show Bp.solidTo ps (x : Int) (y : Int) (k + 1) = z
                    rw [Hstep.out]
                    have : Bp.solid (Bp.bal s) x y = false := by
                      unfold Bp.solid
                      rw [hl6.out, decide_eq_false hL, Bool.false_and]
                    rw [this, if_neg (by decide)]
                  clear hsd
                  go_wp2_with fail
                  go_roundw
                  case rel => exact ⟨k + 1, z, by omega, by go_num, rfl, Hsn.out, by omega, hB6⟩
                  case measure => simp [intOf]; omega
              · have hkn : k = ps.length := by rw [hlp.out]; omega
                have hsol := fun hge => Hsolid.out x y (by rw [hl.out]; exact hxm) (by rw [hl.out]; omega) (by omega) hge
                rw [Hqe.out, ← hkn, hz.out] at hsol
                obtain ⟨v0, hv0⟩ : ∃ v0, Bp.has (Bp.twin (Bp.transfer ps lots seats)) (x : Int) = v0 := ⟨_, rfl⟩
                obtain ⟨v1, hv1⟩ : ∃ v1, Bp.has (Bp.twin (Bp.transfer ps lots seats)) (y : Int) = v1 := ⟨_, rfl⟩
                have hor : q ≤ z → v0 = false → v1 = true := fun hq hv => by
                  subst hv
                  rw [← hv1]
                  unfold Bp.has at hv0 ⊢
                  rw [decide_eq_false_iff_not] at hv0
                  rw [decide_eq_true_iff]
                  exact (hsol hq).resolve_left hv0
                have hvr := hv5.below hbi
                have hcall0 := hasInt_val A1 n1 c1 (x : Int) _ v0 hv0 _ wr hvr (by omega)
                have hcall1 := hasInt_val A1 n1 c1 (y : Int) _ v1 hv1 _ wr hvr (by omega)
                have Hcall0 := Lib.hid hcall0
                have Hcall1 := Lib.hid hcall1
                clear hsol hv0 hv1 hcall0 hcall1 hvr hkn hz
                by_cases hq : q ≤ z
                · cases v0
                  · have hv1 := hor hq rfl
                    subst hv1
                    clear hor
                    go_wp2_with fail
                    refine Hcall0.out.mono ?_
                    rintro e w' ⟨rfl, rfl⟩
                    go_wp2_with fail
                    refine Hcall1.out.mono ?_
                    rintro e w' ⟨rfl, rfl⟩
                    go_wp2_with fail
                    go_roundw
                    case rel => exact ⟨y + 1, by omega, by go_num, hbi⟩
                    case measure => simp [intOf]; omega
                  · clear hor
                    go_wp2_with fail
                    refine Hcall0.out.mono ?_
                    rintro e w' ⟨rfl, rfl⟩
                    go_wp2_with fail
                    go_roundw
                    case rel => exact ⟨y + 1, by omega, by go_num, hbi⟩
                    case measure => simp [intOf]; omega
                · clear hor
                  go_wp2_with fail
                  go_roundw
                  case rel => exact ⟨y + 1, by omega, by go_num, hbi⟩
                  case measure => simp [intOf]; omega
          · go_wp2_with fail
            go_roundw
            case rel => exact ⟨x + 1, by omega, by go_num, hby⟩
            case measure => simp [intOf]; omega
      · go_wp2_with fail
        go_ret
        exact ⟨rfl, hB5.trans (hb.mono (by omega))⟩
end Go.Proofs.Ytiglkajafdecgaa
