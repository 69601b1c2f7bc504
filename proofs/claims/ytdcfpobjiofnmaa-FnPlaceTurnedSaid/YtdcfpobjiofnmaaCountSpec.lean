/-
  The walks of the counts by places in the reference: l14Places, l14Depth.
-/
import Derived.Test.YtdcfpobjiofnmaaCounts
namespace Go.Proofs.Ytdcfpobjiofnmaa
set_option linter.unusedVariables false
open Go.RowKit


set_option maxRecDepth 100000 in
set_option maxHeartbeats 400000 in
theorem l14Places_any (A : Option Addr) (n c m : Nat) (ps : List Bp.Pile) (w : World) (h : Piles w w.heap.size A n ps) (hn : n ≤ 1048576) (hfit : Bp.fits ps m = true) :
    Calls Try.prog 49 #[.slice A n c, .int .i64 (m : Int)] w (CountedI m (Bp.counted (Bp.ptsPlace m) ps m) w) := by
  have hl := Lib.hid h.1.1
  have Hfit := Lib.hid hfit
  obtain ⟨m1, m5⟩ := Bp.fits_n hfit
  have hlen := Bp.fits_len hfit
  rw [hl.out] at hlen
  clear hfit
  obtain ⟨i0, hi0, hz0, hz1, hz2⟩ := info_parts int_info
  go_enter Try.func49, Try.ntmps49
  go_wp2_with (at_make; refine wpList_make_full _ rfl (.tmp 10) (.tmp 10) 31 rfl w.heap.size 3 i0 _ 1 Try.underlying31 hi0 hz0 hz1 .i64 .i64 m m m rfl rfl rfl rfl (by rw [hz2]; omega) (by unfold maxLen; omega) (Nat.le_refl _) ?_; intro w1 hown hg)
  have hown1 := made_own hown
  have hb1 : Below w.heap.size w w1 := (Below.refl _ _).grown hg (Nat.le_refl _) (by simp)
  clear hown hg hi0 hz0 hz1 hz2
  go_loopw [6] (fun i wr => ∃ k : Nat, k ≤ n ∧ i = .int .i64 k ∧ Own wr w.heap.size (.slice (some ⟨w.heap.size, 0, none⟩) m m) m (Bp.countTo (Bp.ptsPlace m) ps m k) ∧ Below w.heap.size w wr) (fun i _ => n - (intOf i).toNat)
  case atStart => exact ⟨0, Nat.zero_le _, rfl, hown1, hb1⟩
  case round =>
    obtain ⟨k, hk, rfl, hown, hb⟩ := hrel
    clear hown1 hb1
    obtain ⟨wo, rfl⟩ : ∃ wo : World, wo = wr := ⟨_, rfl⟩
    have hz := hb.size
    have hlt0 := (hown.row.lt w.heap.size rfl).2
    by_cases hlt : k < n
    · have hr := h.below hb
      obtain ⟨g, o, s, v, rfl, hgl, hcs, hcv, hss, hp⟩ := hr.at hlt
      have hkl : k < ps.length := by rw [hl.out]; exact hlt
      have hbv := Lib.hid (Bp.fits_at Hfit.out k hkl)
      have hv01 := Bp.fits_many_at Hfit.out k hkl
      rw [hp.out] at hv01
      have Hkl := Lib.hid hkl
      clear hkl
      go_wp2_with fail
      refine (sBallotParse_any s _ hss).mono ?_
      rintro e w2 ⟨A2, n2, c2, rfl, hnc2, hown2, hb2⟩
      have hs2 := hb2.size
      have hB2 : Below w.heap.size w w2 := hb.trans (hb2.mono hz)
      have hacc2 : Own w2 w.heap.size (.slice (some ⟨w.heap.size, 0, none⟩) m m) m (Bp.countTo (Bp.ptsPlace m) ps m k) := own_keep hown.row hb2
      have hcv2 : w2.cell? ⟨g, o + k * 2 + 1, none⟩ = some (.int .i64 v) := cell_later hb2 hcv
      have hl2 := Lib.hid hown2.len
      have hn5 : n2 ≤ 5 := by have := Bp.bal_len s; rw [hl2.out] at this; exact this
      have hnm : (n2 : Int) ≤ m := by
        have h1 := Bp.bval_len _ _ hbv.out
        rw [hp.out] at h1
        rw [hl2.out] at h1
        exact h1
      have Hacc : Hid (Bp.Bd (Bp.countTo (Bp.ptsPlace m) ps m k) (2475 * k)) := Bp.countTo_bd (Bp.fits_val Hfit.out) (Bp.ptsPlace_bd m) k (by rw [hl.out]; exact hk)
      clear hown hb hr hcs hcv hb2
      go_wp2_with fail
      go_loopw [9] (fun i wi => ∃ j : Nat, j ≤ n2 ∧ i = .int .i64 j ∧  Own wi w.heap.size (.slice (some ⟨w.heap.size, 0, none⟩) m m) m (Bp.addTo (Bp.ptsPlace m) v (Bp.bal s) (Bp.countTo (Bp.ptsPlace m) ps m k) j) ∧ w2.grownBy wi (some w.heap.size)) (fun i _ => n2 - (intOf i).toNat)
      case atStart => exact ⟨0, Nat.zero_le _, rfl,  hacc2, World.grownBy.refl _ _⟩
      case round =>
        obtain ⟨j, hj, rfl,  hacc, hg⟩ := hrel
        clear hacc2
        by_cases hjl : j < n2
        · have hjl0 := hjl
          have hbi := (hown2.only hg (by omega)).ints
          obtain ⟨g3, o3, ci, rfl, hg3, hci, Hci⟩ := hbi.at hjl
          have hfit := Bp.bval_fit _ _ hbv.out j (by rw [hp.out, hl2.out]; exact hjl)
          rw [hp.out] at hfit
          have hc0 := hfit.1
          have hc1 := hfit.2.1
          rw [Hci.out] at hc0 hc1
          clear hfit
          obtain ⟨cn, rfl⟩ := Int.eq_ofNat_of_zero_le hc0
          have hcm : cn < m := by omega
          obtain ⟨ha1, ha2⟩ := own_cell hacc cn hcm
          have hbd : Bp.Bd (Bp.addTo (Bp.ptsPlace m) v (Bp.bal s) (Bp.countTo (Bp.ptsPlace m) ps m k) j) (2475 * k + 495 * j) := Bp.addTo_bd Hacc.out (by omega) (by omega) (by omega) (Bp.ptsPlace_bd m) j
          have hbd' := hbd.nth cn
          clear hbd
          have hset := own_only_set hacc cn
          obtain ⟨z, hzz⟩ : ∃ z, (Bp.addTo (Bp.ptsPlace m) v (Bp.bal s) (Bp.countTo (Bp.ptsPlace m) ps m k) j).getD cn 0 = z := ⟨_, rfl⟩
          rw [hzz] at ha1 hbd'
          have hPe : v * Bp.ptsPlace m j n2 = v * ((m : Int) - 1 - j) := by unfold Bp.ptsPlace; rw [if_pos (by omega), if_pos m5]
          have hm0 : 0 ≤ v * ((m : Int) - 1 - j) := Int.mul_nonneg (by omega) (by omega)
          have hm1 : v * ((m : Int) - 1 - j) ≤ 99 * 5 := Int.mul_le_mul (by omega) (by omega) (by omega) (by omega)
          have hst := hset (z + v * ((m : Int) - 1 - j))
          have hnext : Hid (Own (wr.setCell ⟨w.heap.size, cn, none⟩ (.int .i64 (z + v * ((m : Int) - 1 - j)))) w.heap.size (.slice (some ⟨w.heap.size, 0, none⟩) m m) m (Bp.addTo (Bp.ptsPlace m) v (Bp.bal s) (Bp.countTo (Bp.ptsPlace m) ps m k) (j + 1))) := by
            have h1 := hst.1
            have e : Bp.addTo (Bp.ptsPlace m) v (Bp.bal s) (Bp.countTo (Bp.ptsPlace m) ps m k) (j + 1) = Bp.bump (Bp.addTo (Bp.ptsPlace m) v (Bp.bal s) (Bp.countTo (Bp.ptsPlace m) ps m k) j) cn (v * ((m : Int) - 1 - j)) := by
              show Bp.bump _ ((Bp.bal s).getD j 0).toNat (v * Bp.ptsPlace m j (Bp.bal s).length) = _
              rw [Hci.out, hl2.out, Int.toNat_natCast, hPe]
            rw [e]
            unfold Bp.bump
            rw [hzz]
            exact h1
          have hgn : Hid (w2.grownBy (wr.setCell ⟨w.heap.size, cn, none⟩ (.int .i64 (z + v * ((m : Int) - 1 - j)))) (some w.heap.size)) := only_trans hg hst.2
          have hcw : wr.cell? ⟨g, o + k * 2 + 1, none⟩ = some (.int .i64 v) := hg.cell hcv2 (by simp; omega)
          clear hst hset hacc hg hzz hPe hown2 hbi
          go_wp2_with fail
          refine wp_region_still_tail 24 (by kernel_rfl) (by kernel_rfl) ?_
          simp only [List.take_succ_cons, List.take_zero, List.drop_succ_cons, List.drop_zero]
          repeat still_step
          refine wpStill_nil ?_
          change wpList _ _ _ _ _ wr.drew
          go_wp2_with fail
          go_roundw
          case rel => exact ⟨j + 1, by omega, by go_num,  hnext.out, only_drewN hgn.out 1⟩
          case measure => simp [intOf]; omega
        · have hjn : Hid (Bp.addTo (Bp.ptsPlace m) v (Bp.bal s) (Bp.countTo (Bp.ptsPlace m) ps m k) (Bp.bal s).length = Bp.addTo (Bp.ptsPlace m) v (Bp.bal s) (Bp.countTo (Bp.ptsPlace m) ps m k) j) := Lib.hid (by rw [hl2.out, show j = n2 by omega])
          have hnext : Hid (Own wr w.heap.size (.slice (some ⟨w.heap.size, 0, none⟩) m m) m (Bp.countTo (Bp.ptsPlace m) ps m (k + 1))) := by
            show Own wr w.heap.size _ m (Bp.addTo (Bp.ptsPlace m) (ps.getD k default).2 (Bp.bal (ps.getD k default).1) (Bp.countTo (Bp.ptsPlace m) ps m k) (Bp.bal (ps.getD k default).1).length)
            rw [hp.out]
            show Own wr w.heap.size _ m (Bp.addTo (Bp.ptsPlace m) v (Bp.bal s) (Bp.countTo (Bp.ptsPlace m) ps m k) (Bp.bal s).length)
            rw [hjn.out]
            exact hacc
          have hbn2 : Hid (Below w.heap.size w wr) := hB2.trans (below_only hg (Nat.le_refl _) (by omega))
          clear hacc hg
          go_wp2_with fail
          go_roundw
          case rel => exact ⟨k + 1, by omega, by go_num, hnext.out, hbn2.out⟩
          case measure => simp [intOf]; omega
    · have hkn : k = n := by omega
      have Hkn := Lib.hid hkn
      clear hkn
      go_wp2_with fail
      go_ret
      refine ⟨w.heap.size, rfl, Nat.le_refl _, ?_, hb⟩
      unfold Bp.counted
      rw [hl.out, ← Hkn.out]
      exact hown



end Go.Proofs.Ytdcfpobjiofnmaa
