/-
  The walk of FnPlaceWinner.
-/
import Derived.Test.YtgcihnhljeahjaaLawMost
import Derived.Test.YtgcihnhljeahjaaDrawLots
import Derived.Test.YtgcihnhljeahjaaPlaceWin
import Derived.Test.YtgcihnhljeahjaaPairWin
import Derived.Test.YtgcihnhljeahjaaPlacePlain
import Derived.Deep.DeepCutAuto
namespace Go.Proofs.Ytgcihnhljeahjaa
set_option linter.unusedVariables false
open Go.RowKit

set_option maxRecDepth 100000 in
set_option maxHeartbeats 4000000 in
theorem lawPlaceWin_any (A : Option Addr) (n c : Nat) (w : World) (h : Bytes w w.heap.size A n) (hn : n ≤ 9223372036854775807) (hc : n ≤ c) :
    Calls Try.prog 7 #[.slice A n c] w fun e w' => e = .returned (.bool true) ∧ Below w.heap.size w w' := by
  by_cases hb : 1048576 < n
  · go_enter Try.func7, Try.ntmps7
    go_wp2_with fail
    go_ret
    exact ⟨rfl, Below.refl _ _⟩
  go_enter Try.func7, Try.ntmps7
  go_wp2_with fail
  refine (drawPlaceWinner_some A n c _ h hn hc).mono ?_
  rintro e w1 ⟨gp, k, cp, Al, m, cl, ps, lots, rfl, hcp, hkp, hcl, hml, hps, hlo, hb1⟩
  have hs1 := hb1.size
  go_wp2_with fail
  refine (iPlaceWinner_any _ k cp Al m cl ps lots _ hps (by omega) hcp hlo (by omega) hcl).mono ?_
  rintro e w2 ⟨rfl, hb2⟩
  have hs2 := hb2.size
  have hps2 := (hps.below hb2).mono hs2
  have hlo2 := (hlo.below hb2).mono hs2
  have hB2 := hb1.trans (hb2.mono hs1)
  go_wp2_with fail
  refine (sPlaceWinner_any _ k cp Al m cl ps lots _ hps2 (by omega) hlo2 (by omega) hcl).mono ?_
  rintro e w3 ⟨rfl, hb3⟩
  have hs3 := hb3.size
  have hps3 := (hps2.below hb3).mono hs3
  have hB3 := hB2.trans (hb3.mono (by omega))
  have hl := hlo.1
  clear hps hps2 hlo2 hlo
  cases hok : Bp.ok ps lots
  · have hw := Bp.plwin_no hok
    rw [hw]
    clear hok hl hw
    go_wp2_with fail
    go_ret
    exact ⟨rfl, hB3⟩
  · have hw := Bp.plwin_yes hok
    have hlv := Bp.ok_lval hok
    have hf := Bp.ok_fits hok
    have hm5 := Bp.lval_n hlv
    have hbr := Bp.best_range (counts := Bp.counted (Bp.ptsPlace lots.length) ps lots.length) hlv
    have hbd : Bp.Bd (Bp.counted (Bp.ptsPlace lots.length) ps lots.length) 29700 := Bp.counted_bd (Bp.fits_val hf) (Bp.ptsPlace_bd _)
    have htop := Bp.best_top (Bp.counted (Bp.ptsPlace lots.length) ps lots.length) lots 29700 hlv (Bp.counted_len _ _ _) hbd
    rw [Bp.counted_len] at htop
    rw [hw]
    rw [hl] at hm5 hf hbr hbd htop ⊢
    obtain ⟨hm1, hm5⟩ := hm5
    obtain ⟨b, hbb⟩ : ∃ b, Bp.best (Bp.counted (Bp.ptsPlace m) ps m) lots = b := ⟨_, rfl⟩
    rw [hbb] at hbr htop ⊢
    obtain ⟨bn, rfl⟩ := Int.eq_ofNat_of_zero_le hbr.1
    rw [Int.toNat_natCast] at htop
    have hbm : bn < m := by omega
    have hbm0 : decide ((bn : Int) < 0) = false := by simp
    have hbm1 : decide ((m : Int) ≤ (bn : Int)) = false := by simp; omega
    have hbm2 : decide (m ≤ bn) = false := decide_eq_false (by omega)
    have Hf := Lib.hid hf
    have Htop := Lib.hid htop
    have Hl := Lib.hid hl
    have hpl := hps3.1.1
    have Hpl := Lib.hid hpl
    have hcall := iPlaceCounts_any _ k cp m ps _ hps3 (by omega) hcp
    rw [hf, Int.toNat_natCast] at hcall
    have Hcall := Lib.hid hcall
    have hpw := iPairWinner_any (some ⟨gp, 0, none⟩) k cp (m : Int) ps
    rw [Bp.pwinner_yes hf, Int.toNat_natCast] at hpw
    obtain ⟨P, hP⟩ : ∃ P, Bp.pairWin ps m = P := ⟨_, rfl⟩
    rw [hP] at hpw
    have Hpw := Lib.hid hpw
    have hpc : (∃ x : Nat, x < m ∧ P = x ∧ Bp.winsB ps m x = true) ∨ P = -1 := by
      rcases Bp.pairWin_cases ps m with ⟨x, hx, h1, h2, _⟩ | ⟨h1, _⟩
      · exact .inl ⟨x, hx, by rw [← hP, h1], h2⟩
      · exact .inr (by rw [← hP, h1])
    have Hpc := Lib.hid hpc
    clear hok hl hw hlv hf hbb hbr hbd htop hcall hpw hP hpc hpl
    go_wp2_with fail
    refine Hcall.out.mono ?_
    rintro e w4 ⟨Ac, nc, cc, rfl, hcc, hnc, own4, hb4⟩
    have hs4 := hb4.size
    have hB4 := hB3.trans (hb4.mono (by omega))
    have hps4 := (hps3.below hb4).mono hs4
    rw [cres_yes rfl] at own4
    have hnm : nc = m := by have := own4.len; rw [Bp.counted_len] at this; omega
    subst hnm
    have hi := own4.ints
    obtain ⟨g3, o3, y, rfl, _, hy, ey⟩ := hi.at hbm
    have hyT : Bp.topN (Bp.counted (Bp.ptsPlace nc) ps nc) nc = y := by rw [← Htop.out]; exact ey.out
    have HyT := Lib.hid hyT
    clear hyT own4 hps3 hb4
    have i3 : (0 : Int) ≤ (bn : Int) := by omega
    have i4 : (bn : Int) < (nc : Int) := by omega
    go_wp2_with fail
    go_quiet ((go_at_call 29; exact quiet_left (most_val _ nc cc _ y HyT.out _ _ (hi.drewN _) (by omega))))
    have hd5 : Below w4.heap.size w4 (w4.drewN nq) := below_drewN (Below.refl _ _) nq
    obtain ⟨w5, hw5⟩ : ∃ w5, w4.drewN nq = w5 := ⟨_, rfl⟩
    rw [hw5] at hd5 ⊢
    clear hw5
    have hs5 := hd5.size
    have hB5 := hB4.trans (hd5.mono (by omega))
    have hps5 := (hps4.below hd5).mono hs5
    have hi5 := (hi.below hd5).mono hs5
    clear hy hps4 hi hd5
    go_wp2_with fail
    refine (Hpw.out w5 hps5 (by omega) hcp).mono ?_
    rintro e w6 ⟨rfl, hb6⟩
    have hs6 := hb6.size
    have hB6 := hB5.trans (hb6.mono (by omega))
    have hps6 := (hps5.below hb6).mono hs6
    have hi6 := (hi5.below hb6).mono hs6
    clear hps5 hi5 hb6
    go_upto_region 12 with (fail)
    go_cut [10] (fun s10 wx => ∃ f : Bool, s10 = .bool f ∧ Hid (f = true → 1 < nc ∧ 0 ≤ P) ∧ w6 = wx)
    case first =>
      by_cases h1 : 1 < nc
      · have d1 : decide ((1 : Int) < (nc : Int)) = true := by simp; omega
        have d1' : decide (1 < nc) = true := decide_eq_true h1
        by_cases h2 : 0 ≤ P
        · have d2 : decide (0 ≤ P) = true := decide_eq_true h2
          have H1 := Lib.hid h1
          have H2 := Lib.hid h2
          clear h1 h2
          go_wp2_with fail
          go_meet
          exact ⟨true, rfl, (fun _ => ⟨H1.out, H2.out⟩), rfl⟩
        · have d2 : decide (0 ≤ P) = false := decide_eq_false h2
          clear h1 h2
          go_wp2_with fail
          go_meet
          exact ⟨false, rfl, (fun h => by cases h), rfl⟩
      · have d1 : decide ((1 : Int) < (nc : Int)) = false := by simp; omega
        have d1' : decide (1 < nc) = false := decide_eq_false h1
        clear h1
        go_wp2_with fail
        go_meet
        exact ⟨false, rfl, (fun h => by cases h), rfl⟩
    case rest =>
      obtain ⟨f, rfl, hf1, rfl⟩ := hcut
      go_wp2_with fail
      go_loop [10, 11] (fun s i => ∃ (q : Nat) (f : Bool), q ≤ k ∧ i = .int .i64 q ∧ s = .bool f ∧ Hid (f = true → (1 < nc ∧ 0 ≤ P) ∧ ∀ j, j < q → (ps.getD j default).1.size = nc)) (fun _ i => k - (intOf i).toNat)
      case atStart => exact ⟨0, f, Nat.zero_le _, rfl, rfl, (fun h => ⟨hf1.out h, fun j hj => absurd hj (by omega)⟩)⟩
      case round =>
        obtain ⟨q, f, hq, rfl, rfl, hfq⟩ := hrel
        by_cases hqk : q < k
        · cases f
          · go_wp2_with fail
            go_round
            case rel => exact ⟨q + 1, false, by omega, by go_num, rfl, (fun h => by cases h)⟩
            case measure => simp [intOf]; omega
          · obtain ⟨g, o, s, mm, hA, hgl, hc1, hc2, hss, hp⟩ := hps6.at hqk
            injection hA with hA; injection hA with e1 e2
            subst e1; subst e2
            simp only [Nat.zero_add] at hc1
            have i5 : (0 : Int) ≤ (q : Int) := by omega
            have i6 : (q : Int) < (k : Int) := by omega
            obtain ⟨b, hb⟩ : ∃ b, ((s.size : Int) == (nc : Int)) = b := ⟨_, rfl⟩
            have Hb := Lib.hid hb
            go_wp2_with fail
            go_round
            case rel => exact ⟨q + 1, b, by omega, by go_num, by first | rfl | (simp [Hb.out]; done), (fun h => ⟨(hfq.out rfl).1, fun j hj => by
              by_cases e : j = q
              · subst e
                rw [hp.out]
                have := Hb.out
                rw [h] at this
                have e2 : (s.size : Int) = (nc : Int) := by simpa using this
                show s.size = nc
                omega
              · exact (hfq.out rfl).2 j (by omega)⟩)⟩
            case measure => simp [intOf]; omega
        · have hqe : q = k := by omega
          cases f
          · go_wp2_with fail
            go_loopw [12, 13] (fun s i wr => i = .int .i64 0 ∧ s = .bool true ∧ w6 = wr) (fun _ _ _ => 0)
            case atStart => exact ⟨rfl, rfl, rfl⟩
            case round =>
              obtain ⟨rfl, rfl, rfl⟩ := hrel
              go_wp2_with fail
              go_ret
              exact ⟨rfl, hB6⟩
          · obtain ⟨⟨hn1, hP0⟩, hall⟩ := hfq.out rfl
            rcases Hpc.out with ⟨x, hx, rfl, hwin⟩ | hP1
            · have hbt := Bp.place_beats (w := x) Hf.out (by omega) (fun j hj => by
                rw [Bp.bal_full Hf.out hj]
                exact hall j (by rw [Hpl.out] at hj; omega)) hx hwin
              obtain ⟨i0, hi0, hlt0⟩ := hbt
              have Hbt := Lib.hid hlt0
              obtain ⟨gx, ox, vx, hAx, _, hcx, hex⟩ := hi6.at hx
              have i5 : (0 : Int) ≤ (x : Int) := by omega
              have i6 : (x : Int) < (nc : Int) := by omega
              have Hall := Lib.hid hall
              have Hqe := Lib.hid hqe
              clear hlt0 hwin hcx hAx hall hqe
              go_wp2_with fail
              go_loopw [12, 13] (fun s i wr => ∃ t : Nat, t ≤ nc ∧ i = .int .i64 t ∧ s = .bool (Bp.anyTo (fun j => decide ((Bp.counted (Bp.ptsPlace nc) ps nc).getD j 0 < vx)) t) ∧ Drawn w6 wr) (fun _ i _ => nc - (intOf i).toNat)
              case atStart => exact ⟨0, Nat.zero_le _, rfl, rfl, Drawn.refl _⟩
              case round =>
                obtain ⟨t, ht, rfl, rfl, hd⟩ := hrel
                by_cases htl : t < nc
                · have hir := hi6.below (hd.below _)
                  obtain ⟨ga, oa, va, hAa, _, hca, hea⟩ := hir.at htl
                  injection hAa with hAa; injection hAa with e1 e2
                  subst e1; subst e2
                  obtain ⟨gb, ob, vb, hAb, _, hcb, heb⟩ := hir.at hx
                  injection hAb with hAb; injection hAb with e1 e2
                  subst e1; subst e2
                  have hvb : vb = vx := by rw [← heb.out, hex.out]
                  subst hvb
                  have i7 : (0 : Int) ≤ (t : Int) := by omega
                  have i8 : (t : Int) < (nc : Int) := by omega
                  have Hn := Lib.hid (show Bp.anyTo (fun j => decide ((Bp.counted (Bp.ptsPlace nc) ps nc).getD j 0 < vb)) (t + 1) = (Bp.anyTo (fun j => decide ((Bp.counted (Bp.ptsPlace nc) ps nc).getD j 0 < vb)) t || decide ((Bp.counted (Bp.ptsPlace nc) ps nc).getD t 0 < vb)) from rfl)
                  obtain ⟨s, hs⟩ : ∃ s, Bp.anyTo (fun j => decide ((Bp.counted (Bp.ptsPlace nc) ps nc).getD j 0 < vb)) t = s := ⟨_, rfl⟩
                  rw [hs] at Hn
                  rw [hs]
                  clear hs hir
                  cases s
                  · go_wp2_with fail
                    go_quiet (fail)
                    go_wp2_with fail
                    go_roundw
                    case rel => exact ⟨t + 1, by omega, by go_num, by rw [Hn.out, hea.out]; rfl, hd.drewN _⟩
                    case measure => simp [intOf]; omega
                  · go_wp2_with fail
                    go_quiet (fail)
                    go_wp2_with fail
                    go_roundw
                    case rel => exact ⟨t + 1, by omega, by go_num, by rw [Hn.out]; rfl, hd.drewN _⟩
                    case measure => simp [intOf]; omega
                · have hte : t = nc := by omega
                  have hfin : Bp.anyTo (fun j => decide ((Bp.counted (Bp.ptsPlace nc) ps nc).getD j 0 < vx)) t = true := by
                    rw [hte]
                    refine Bp.anyTo_of _ nc i0 hi0 (decide_eq_true ?_)
                    rw [← hex.out]
                    exact Hbt.out
                  rw [hfin]
                  clear hfin hte
                  go_wp2_with fail
                  go_ret
                  exact ⟨rfl, hB6.trans (hd.below _)⟩
            · omega
end Go.Proofs.Ytgcihnhljeahjaa
