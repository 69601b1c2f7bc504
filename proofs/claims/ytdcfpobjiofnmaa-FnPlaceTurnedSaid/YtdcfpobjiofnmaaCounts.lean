/-
  The walks of the counts by places in the program: placesCounted at each of its three functions of points; PlaceCounts, DepthCounts, LastCounts.
-/
import Derived.Test.YtdcfpobjiofnmaaPiles
import Derived.Test.YtdcfpobjiofnmaaCountPlain
import Derived.StillTailTactics
namespace Go.Proofs.Ytdcfpobjiofnmaa
set_option linter.unusedVariables false
open Go.RowKit

/-- what a count leaves: a row of the call's own -/
def CountedI (n : Nat) (zs : List Int) (w : World) (e : Ending) (w' : World) : Prop :=
  ∃ g, e = .returned (.slice (some ⟨g, 0, none⟩) n n) ∧ w.heap.size ≤ g ∧ Own w' g (.slice (some ⟨g, 0, none⟩) n n) n zs ∧ Below w.heap.size w w'
theorem Own.only {w w' : World} {base g : Nat} {v : Value} {n : Nat} {zs : List Int} (h : Own w base v n zs) (hg : w.grownBy w' (some g)) (hlt : g < base) : Own w' base v n zs :=
  h.row.kept hg (by
    rcases h.2 with ⟨rfl, _⟩ | ⟨g', cap, cur, rfl, hb, _⟩
    · exact .inl rfl
    · exact .inr (by simp [Value.ownBlock]; omega))
theorem own_only_set {w : World} {g n c : Nat} {zs : List Int} {base : Nat} (h : Own w base (.slice (some ⟨g, 0, none⟩) n c) n zs) (j : Nat) (z : Int) :
    Own (w.setCell ⟨g, j, none⟩ (.int .i64 z)) base (.slice (some ⟨g, 0, none⟩) n c) n (zs.set j z) ∧ w.grownBy (w.setCell ⟨g, j, none⟩ (.int .i64 z)) (some g) := by
  have := h.row.stored j (.int .i64 z)
  refine ⟨?_, this.2⟩
  unfold Own
  rw [List.map_set]
  exact this.1
theorem own_cell {w : World} {g n c : Nat} {zs : List Int} {base : Nat} (h : Own w base (.slice (some ⟨g, 0, none⟩) n c) n zs) (j : Nat) (hj : j < n) :
    w.cell? ⟨g, j, none⟩ = some (.int .i64 (zs.getD j 0)) ∧ w.frozen? ⟨g, j, none⟩ = false := by
  refine ⟨?_, h.row.frozenAt _⟩
  rw [h.row.cellAt j (by omega)]
  have : j < zs.length := by rw [h.len]; exact hj
  simp [List.getD, this]
theorem made_own {w w1 : World} {n : Nat} (h : w1.ownsRow w.heap.size 3 1 (.slice (some ⟨w.heap.size, 0, none⟩) n n) n (madeCells (Value.int .i64 0).cells (n * 1)).toList) : Own w1 w.heap.size (.slice (some ⟨w.heap.size, 0, none⟩) n n) n (List.replicate n 0) := by
  unfold Own
  rw [List.map_replicate]
  have e : (madeCells (Value.int .i64 0).cells (n * 1)).toList = List.replicate n (Value.int .i64 0) := by
    rw [Nat.mul_one]
    exact toList_madeCells_one _ _
  rw [e] at h
  exact h


set_option maxRecDepth 100000 in
set_option maxHeartbeats 400000 in
theorem closurePlace_any (b : Nat) (q : Int) (j k : Nat) (w : World) (hc : w.cell? ⟨b, 0, none⟩ = some (.int .i64 q)) (hj5 : j ≤ 5) (hk5 : k ≤ 5) (hq0 : 1 ≤ q) (hq1 : q ≤ 5) (hj : (j : Int) < q) :
    Calls Try.prog 72 #[.int .i64 (j : Int), .int .i64 (k : Int), .pointer (some ⟨b, 0, none⟩)] w fun e w' => e = .returned (.int .i64 (Bp.ptsPlace q j k)) ∧ w = w' := by
  have H := Lib.hid (show Bp.ptsPlace q j k = q - 1 - j by unfold Bp.ptsPlace; rw [if_pos hj, if_pos hq1])
  go_enter Try.func72, Try.ntmps72
  go_wp2
  go_ret
  exact ⟨ret_int H.out.symm, rfl⟩
set_option maxRecDepth 100000 in
set_option maxHeartbeats 400000 in
theorem placesPlace_any (A : Option Addr) (n c m : Nat) (q : Int) (bn : Nat) (ps : List Bp.Pile) (w : World) (h : Piles w w.heap.size A n ps) (hn : n ≤ 1048576) (hfit : Bp.fits ps m = true) (hcn : w.cell? ⟨bn, 0, none⟩ = some (.int .i64 q)) (hq : q = (m : Int)) :
    Calls Try.prog 71 #[.slice A n c, .int .i64 (m : Int), .func (.func 72) #[] #[.pointer (some ⟨bn, 0, none⟩)]] w (CountedI m (Bp.counted (Bp.ptsPlace q) ps m) w) := by
  have hl := Lib.hid h.1.1
  have Hfit := Lib.hid hfit
  obtain ⟨m1, m5⟩ := Bp.fits_n hfit
  have hlen := Bp.fits_len hfit
  rw [hl.out] at hlen
  clear hfit
  have hbn : bn < w.heap.size := lt_of_cell hcn
  obtain ⟨i0, hi0, hz0, hz1, hz2⟩ := info_parts int_info
  go_enter Try.func71, Try.ntmps71
  go_wp2_with (at_make; refine wpList_make_full _ rfl (.tmp 13) (.tmp 13) 31 rfl w.heap.size 3 i0 _ 1 Try.underlying31 hi0 hz0 hz1 .i64 .i64 m m m rfl rfl rfl rfl (by rw [hz2]; omega) (by unfold maxLen; omega) (Nat.le_refl _) ?_; intro w1 hown hg)
  have hown1 := made_own hown
  have hb1 : Below w.heap.size w w1 := (Below.refl _ _).grown hg (Nat.le_refl _) (by simp)
  clear hown hg hi0 hz0 hz1 hz2
  go_loopw [17] (fun i wr => ∃ k : Nat, k ≤ n ∧ i = .int .i64 k ∧ Own wr w.heap.size (.slice (some ⟨w.heap.size, 0, none⟩) m m) m (Bp.countTo (Bp.ptsPlace q) ps m k) ∧ Below w.heap.size w wr) (fun i _ => n - (intOf i).toNat)
  case atStart => exact ⟨0, Nat.zero_le _, rfl, hown1, hb1⟩
  case round =>
    obtain ⟨k, hk, rfl, hown, hb⟩ := hrel
    clear hown1 hb1
    obtain ⟨wo, rfl⟩ : ∃ wo : World, wo = wr := ⟨_, rfl⟩
    have hz := hb.size
    have hlt0 := (hown.row.lt w.heap.size rfl).2
    by_cases hlt : k < n
    · have hr := h.below hb
      obtain ⟨g, o, s, v, rfl, hgl, hc1, hc2, hss, hp⟩ := hr.at hlt
      have hkl : k < ps.length := by rw [hl.out]; exact hlt
      have hbv := Lib.hid (Bp.fits_at Hfit.out k hkl)
      have hv01 := Bp.fits_many_at Hfit.out k hkl
      rw [hp.out] at hv01
      have Hkl := Lib.hid hkl
      clear hkl
      go_wp2_with fail
      refine (ballot_any s v _ hss).mono ?_
      rintro e w2 ⟨A2, n2, c2, rfl, hnc2, hown2, hb2⟩
      have hs2 := hb2.size
      simp at hs2
      have hB2 : Below w.heap.size w w2 := Below.trans (by repeat (first | exact Below.refl _ _ | assumption | refine below_drewN ?_ _ | refine Below.drew ?_ | refine Below.alloc ?_ (by first | exact Nat.le_refl _ | omega | (simp; done) | (simp; omega)) _ | refine Below.setCell ?_ (by first | exact Nat.le_refl _ | omega | (simp; done) | (simp; omega)) _)) (hb2.mono (by first | omega | (simp; done) | (simp; omega)))
      have hacc2 : Own w2 w.heap.size (.slice (some ⟨w.heap.size, 0, none⟩) m m) m (Bp.countTo (Bp.ptsPlace q) ps m k) := own_keep (hown.row.alloc _) hb2
      have hbx2 : w2.cell? ⟨wo.heap.size, 1, none⟩ = some (.int .i64 v) := cell_later hb2 (by simp [go_sem])
      have hcn2 : w2.cell? ⟨bn, 0, none⟩ = some (.int .i64 q) := (hB2.cell (p := ⟨bn, 0, none⟩) hbn).trans hcn
      have hl2 := Lib.hid hown2.len
      have hn5 : n2 ≤ 5 := by have := Bp.bal_len s; rw [hl2.out] at this; exact this
      have hnm : (n2 : Int) ≤ m := by
        have h1 := Bp.bval_len _ _ hbv.out
        rw [hp.out] at h1
        rw [hl2.out] at h1
        exact h1
      have Hacc : Hid (Bp.Bd (Bp.countTo (Bp.ptsPlace q) ps m k) (2475 * k)) := Bp.countTo_bd (Bp.fits_val Hfit.out) (Bp.ptsPlace_bd q) k (by rw [hl.out]; exact hk)
      clear hown hb hr hc1 hc2 hb2
      go_wp2_with fail
      go_loopw [25] (fun i wi => ∃ j : Nat, j ≤ n2 ∧ i = .int .i64 j ∧ Own wi w.heap.size (.slice (some ⟨w.heap.size, 0, none⟩) m m) m (Bp.addTo (Bp.ptsPlace q) v (Bp.bal s) (Bp.countTo (Bp.ptsPlace q) ps m k) j) ∧ w2.grownBy wi (some w.heap.size)) (fun i _ => n2 - (intOf i).toNat)
      case atStart => exact ⟨0, Nat.zero_le _, rfl, hacc2, World.grownBy.refl _ _⟩
      case round =>
        obtain ⟨j, hj, rfl, hacc, hg⟩ := hrel
        clear hacc2
        by_cases hjl : j < n2
        · have hbi := (hown2.only hg (by simp; omega)).ints
          obtain ⟨g3, o3, ci, rfl, hg3, hci, Hci⟩ := hbi.at hjl
          have hfit := Bp.bval_fit _ _ hbv.out j (by rw [hp.out, hl2.out]; exact hjl)
          rw [hp.out] at hfit
          have hc0 := hfit.1
          have hc1 := hfit.2.1
          rw [Hci.out] at hc0 hc1
          clear hfit
          obtain ⟨cn, rfl⟩ := Int.eq_ofNat_of_zero_le hc0
          have hcm : cn < m := by omega
          obtain ⟨ha1, ha2⟩ := own_cell hacc cn hcm
          have hbd : Bp.Bd (Bp.addTo (Bp.ptsPlace q) v (Bp.bal s) (Bp.countTo (Bp.ptsPlace q) ps m k) j) (2475 * k + 495 * j) := Bp.addTo_bd Hacc.out (by omega) (by omega) (by omega) (Bp.ptsPlace_bd q) j
          have hbd' := hbd.nth cn
          clear hbd
          have hset := own_only_set hacc cn
          obtain ⟨z, hzz⟩ : ∃ z, (Bp.addTo (Bp.ptsPlace q) v (Bp.bal s) (Bp.countTo (Bp.ptsPlace q) ps m k) j).getD cn 0 = z := ⟨_, rfl⟩
          rw [hzz] at ha1 hbd'
          obtain ⟨P, hP⟩ : ∃ P, Bp.ptsPlace q j n2 = P := ⟨_, rfl⟩
          have hPb := Bp.ptsPlace_bd q j n2
          rw [hP] at hPb
          have hm0 : 0 ≤ v * P := Int.mul_nonneg (by omega) hPb.1
          have hm1 : v * P ≤ 99 * 5 := Int.mul_le_mul (by omega) hPb.2 hPb.1 (by omega)
          have hst := hset (z + v * P)
          have hnext : Hid (Own (wr.setCell ⟨w.heap.size, cn, none⟩ (.int .i64 (z + v * P))) w.heap.size (.slice (some ⟨w.heap.size, 0, none⟩) m m) m (Bp.addTo (Bp.ptsPlace q) v (Bp.bal s) (Bp.countTo (Bp.ptsPlace q) ps m k) (j + 1))) := by
            have h1 := hst.1
            rw [← hzz, ← hP] at h1
            have e : Bp.addTo (Bp.ptsPlace q) v (Bp.bal s) (Bp.countTo (Bp.ptsPlace q) ps m k) (j + 1) = Bp.bump (Bp.addTo (Bp.ptsPlace q) v (Bp.bal s) (Bp.countTo (Bp.ptsPlace q) ps m k) j) cn (v * Bp.ptsPlace q j n2) := by
              show Bp.bump _ ((Bp.bal s).getD j 0).toNat (v * Bp.ptsPlace q j (Bp.bal s).length) = _
              rw [Hci.out, hl2.out, Int.toNat_natCast]
            rw [e]
            unfold Bp.bump
            rw [← hzz, ← hP]
            exact h1
          have hgn : Hid (w2.grownBy (wr.setCell ⟨w.heap.size, cn, none⟩ (.int .i64 (z + v * P))) (some w.heap.size)) := only_trans hg hst.2
          have hbx : wr.cell? ⟨wo.heap.size, 1, none⟩ = some (.int .i64 v) := hg.cell hbx2 (by simp; omega)
          have hcq : wr.cell? ⟨bn, 0, none⟩ = some (.int .i64 q) := hg.cell hcn2 (by simp; omega)
          have hcall : ∀ x : World, x.cell? ⟨bn, 0, none⟩ = some (.int .i64 q) → Calls Try.prog 72 #[.int .i64 (j : Int), .int .i64 (n2 : Int), .pointer (some ⟨bn, 0, none⟩)] x fun e w' => e = .returned (.int .i64 P) ∧ w' = x := fun x hx => by
            rw [← hP]
            exact (closurePlace_any bn q j n2 x hx (by omega) hn5 (by omega) (by omega) (by omega)).mono fun e w' ⟨h1, h2⟩ => ⟨h1, h2.symm⟩
          have Hcall := Lib.hid hcall
          have Hzz := Lib.hid hzz
          have HP := Lib.hid hP
          clear hcall hst hset hacc hg hzz hP hown2 hbi
          go_wp2_with fail
          refine wp_region_still_tail 14 (by kernel_rfl) (by kernel_rfl) ?_
          simp only [List.take_succ_cons, List.take_zero, List.drop_succ_cons, List.drop_zero]
          repeat still_step
          still_call (Hcall.out _ (by simpa [go_sem] using hcq))
          repeat still_step
          refine wpStill_nil ?_
          change wpList _ _ _ _ _ wr.drew
          go_wp2_with fail
          go_roundw
          case rel => exact ⟨j + 1, by omega, by go_num, hnext.out, only_drewN hgn.out 1⟩
          case measure => simp [intOf]; omega
        · have hjn : j = n2 := by omega
          have Hjn := Lib.hid hjn
          clear hjn
          have hnext : Hid (Own wr w.heap.size (.slice (some ⟨w.heap.size, 0, none⟩) m m) m (Bp.countTo (Bp.ptsPlace q) ps m (k + 1))) := by
            show Own wr w.heap.size _ m (Bp.addTo (Bp.ptsPlace q) (ps.getD k default).2 (Bp.bal (ps.getD k default).1) (Bp.countTo (Bp.ptsPlace q) ps m k) (Bp.bal (ps.getD k default).1).length)
            rw [hp.out]
            show Own wr w.heap.size _ m (Bp.addTo (Bp.ptsPlace q) v (Bp.bal s) (Bp.countTo (Bp.ptsPlace q) ps m k) (Bp.bal s).length)
            rw [hl2.out, ← Hjn.out]
            exact hacc
          have hbn2 : Hid (Below w.heap.size w wr) := hB2.trans (below_only hg (Nat.le_refl _) (by omega))
          clear hacc hg
          go_wp2_with fail
          go_roundw
          case rel => exact ⟨k + 1, by omega, by go_num, hnext.out, hbn2.out⟩
          case measure => simp [intOf]; omega
    · have hkn : k = n := by omega
      have Hkn := Lib.hid hkn
      clear hkn
      go_wp2_with fail
      go_ret
      refine ⟨w.heap.size, rfl, Nat.le_refl _, ?_, hb⟩
      unfold Bp.counted
      rw [hl.out, ← Hkn.out]
      exact hown



end Go.Proofs.Ytdcfpobjiofnmaa
