/-
  The walks of first preferences: BallotFirst, the counts, in the program and in the reference.
-/
import Derived.Test.YtdcfpobjiofnmaaLots
import Derived.Test.YtdcfpobjiofnmaaCountRes
import Derived.Test.YtdcfpobjiofnmaaCountSpec
namespace Go.Proofs.Ytdcfpobjiofnmaa
set_option linter.unusedVariables false
open Go.RowKit

set_option maxRecDepth 100000 in
set_option maxHeartbeats 400000 in
theorem iBallotFirst_any (A A' : Option Addr) (n c n' c' : Nat) (b : List Int) (left : List Bool) (B B' : Nat) (w : World) (h : Ints w B A n b) (h' : Bools w B' A' n' left) (hn : n ≤ 1048576) (hnc : n ≤ c) (hv : Bp.bval b n' = true) :
    Calls Try.prog 75 #[.slice A n c, .slice A' n' c'] w fun e w' => e = .returned (.int .i64 (Bp.bfirst b left)) ∧ w = w' := by
  have hl := Lib.hid h.1
  have Hv := Lib.hid hv
  go_enter Try.func75, Try.ntmps75
  go_wp2_with (go_at_call 54; refine (iBallotValid_any A n c n' b B _ h (by omega) hnc).mono ?_; rintro e w' ⟨rfl, rfl⟩)
  clear hv
  go_loop [14] (fun i => ∃ k : Nat, k ≤ n ∧ i = .int .i64 k ∧ Hid (∀ j, j < k → left.getD (b.getD j 0).toNat false = true)) (fun i => n - (intOf i).toNat)
  case atStart => exact ⟨0, Nat.zero_le _, rfl, fun j hj => absurd hj (by omega)⟩
  case round =>
    obtain ⟨k, hk, rfl, hq⟩ := hrel
    by_cases hlt : k < n
    · obtain ⟨g, o, z, rfl, _, hc, hz⟩ := h.at hlt
      have hfit := Bp.bval_fit _ _ Hv.out k (by rw [hl.out]; exact hlt)
      have hz0 := hfit.1
      have hz1 := hfit.2.1
      rw [hz.out] at hz0 hz1
      clear hfit
      obtain ⟨zn, rfl⟩ := Int.eq_ofNat_of_zero_le hz0
      obtain ⟨g2, o2, y, rfl, _, hcy, hy⟩ := h'.at (show zn < n' by omega)
      cases y
      · go_wp2_with fail
        go_ret
        exact ⟨ret_int (by
          rw [Bp.bfirst_found b left k (by rw [hl.out]; exact hlt) (by rw [hz.out, Int.toNat_natCast, hy.out]) hq.out, hz.out]), rfl⟩
      · go_wp2_with fail
        go_round
        case rel => exact ⟨k + 1, by omega, by go_num, fun j hj => by
          by_cases hj' : j = k
          · subst hj'; rw [hz.out, Int.toNat_natCast, hy.out]
          · exact hq.out j (by omega)⟩
        case measure => simp [intOf]; omega
    · go_wp2_with fail
      go_ret
      exact ⟨ret_int (by rw [Bp.bfirst_none b left (fun j hj => hq.out j (by rw [hl.out] at hj; omega))]), rfl⟩

set_option maxRecDepth 100000 in
set_option maxHeartbeats 400000 in
theorem l1First_any (A A' : Option Addr) (n c n' c' : Nat) (b : List Int) (left : List Bool) (B B' : Nat) (w : World) (h : Ints w B A n b) (h' : Bools w B' A' n' left) (hn : n ≤ 1048576) (hv : Bp.bval b n' = true) :
    Calls Try.prog 93 #[.slice A n c, .slice A' n' c'] w fun e w' => e = .returned (.int .i64 (Bp.bfirst b left)) ∧ w = w' := by
  have hl := Lib.hid h.1
  have Hv := Lib.hid hv
  clear hv
  go_enter Try.func93, Try.ntmps93
  go_wp2
  go_loop [5] (fun i => ∃ k : Nat, k ≤ n ∧ i = .int .i64 k ∧ Hid (∀ j, j < k → left.getD (b.getD j 0).toNat false = true)) (fun i => n - (intOf i).toNat)
  case atStart => exact ⟨0, Nat.zero_le _, rfl, fun j hj => absurd hj (by omega)⟩
  case round =>
    obtain ⟨k, hk, rfl, hq⟩ := hrel
    by_cases hlt : k < n
    · obtain ⟨g, o, z, rfl, _, hc, hz⟩ := h.at hlt
      have hfit := Bp.bval_fit _ _ Hv.out k (by rw [hl.out]; exact hlt)
      have hz0 := hfit.1
      have hz1 := hfit.2.1
      rw [hz.out] at hz0 hz1
      clear hfit
      obtain ⟨zn, rfl⟩ := Int.eq_ofNat_of_zero_le hz0
      obtain ⟨g2, o2, y, rfl, _, hcy, hy⟩ := h'.at (show zn < n' by omega)
      cases y
      · go_wp2_with fail
        go_ret
        exact ⟨ret_int (by
          rw [Bp.bfirst_found b left k (by rw [hl.out]; exact hlt) (by rw [hz.out, Int.toNat_natCast, hy.out]) hq.out, hz.out]), rfl⟩
      · go_wp2_with fail
        go_round
        case rel => exact ⟨k + 1, by omega, by go_num, fun j hj => by
          by_cases hj' : j = k
          · subst hj'; rw [hz.out, Int.toNat_natCast, hy.out]
          · exact hq.out j (by omega)⟩
        case measure => simp [intOf]; omega
    · go_wp2_with fail
      go_ret
      exact ⟨ret_int (by rw [Bp.bfirst_none b left (fun j hj => hq.out j (by rw [hl.out] at hj; omega))]), rfl⟩

set_option maxRecDepth 100000 in
set_option maxHeartbeats 400000 in
theorem iFirsts_any (A A' : Option Addr) (n c m c' : Nat) (ps : List Bp.Pile) (left : List Bool) (w : World) (h : Piles w w.heap.size A n ps) (h' : Bools w w.heap.size A' m left) (hn : n ≤ 1048576) (hfit : Bp.fits ps m = true) :
    Calls Try.prog 52 #[.slice A n c, .slice A' m c'] w (CountedI m (Bp.firsts ps left) w) := by
  have hl := Lib.hid h.1.1
  have hlm := Lib.hid h'.1
  have Hfit := Lib.hid hfit
  obtain ⟨m1, m5⟩ := Bp.fits_n hfit
  have hlen := Bp.fits_len hfit
  rw [hl.out] at hlen
  clear hfit
  obtain ⟨i0, hi0, hz0, hz1, hz2⟩ := info_parts int_info
  go_enter Try.func52, Try.ntmps52
  go_wp2_with (at_make; refine wpList_make_full _ rfl (.tmp 10) (.tmp 10) 31 rfl w.heap.size 3 i0 _ 1 Try.underlying31 hi0 hz0 hz1 .i64 .i64 m m m rfl rfl rfl rfl (by rw [hz2]; omega) (by unfold maxLen; omega) (Nat.le_refl _) ?_; intro w1 hown hg)
  have hown1 : Own w1 w.heap.size (.slice (some ⟨w.heap.size, 0, none⟩) m m) m (Bp.firstTo ps left 0) := by
    rw [Bp.firstTo, hlm.out]
    exact made_own hown
  have hb1 : Below w.heap.size w w1 := (Below.refl _ _).grown hg (Nat.le_refl _) (by simp)
  clear hown hg hi0 hz0 hz1 hz2
  go_loopw [14] (fun i wr => ∃ k : Nat, k ≤ n ∧ i = .int .i64 k ∧ Own wr w.heap.size (.slice (some ⟨w.heap.size, 0, none⟩) m m) m (Bp.firstTo ps left k) ∧ Below w.heap.size w wr) (fun i _ => n - (intOf i).toNat)
  case atStart => exact ⟨0, Nat.zero_le _, rfl, hown1, hb1⟩
  case round =>
    obtain ⟨k, hk, rfl, hown, hb⟩ := hrel
    clear hown1 hb1
    have hz := hb.size
    have hlt0 := (hown.row.lt w.heap.size rfl).2
    by_cases hlt : k < n
    · have hr := h.below hb
      obtain ⟨g, o, s, v, rfl, hgl, hc1, hc2, hss, hp⟩ := hr.at hlt
      have hkl : k < ps.length := by rw [hl.out]; exact hlt
      have hbv := Bp.fits_at Hfit.out k hkl
      rw [hp.out] at hbv
      have hv01 := Bp.fits_many_at Hfit.out k hkl
      rw [hp.out] at hv01
      have Hkl := Lib.hid hkl
      clear hkl
      have hbr := Bp.bfirst_range (Bp.bal s) left m hbv
      have hstep : Bp.firstTo ps left (k + 1) = if 0 ≤ Bp.bfirst (Bp.bal s) left then Bp.bump (Bp.firstTo ps left k) (Bp.bfirst (Bp.bal s) left).toNat v else Bp.firstTo ps left k := by
        rw [Bp.firstTo, hp.out]
      have Hbv := Lib.hid hbv
      clear hbv
      obtain ⟨X, hX⟩ : ∃ X, Bp.bfirst (Bp.bal s) left = X := ⟨_, rfl⟩
      rw [hX] at hbr hstep
      have HX := Lib.hid hX
      have Hstep := Lib.hid hstep
      clear hX hstep
      go_wp2_with fail
      refine (ballot_any s v _ hss).mono ?_
      rintro e w2 ⟨A2, n2, c2, rfl, hnc2, hown2, hb2⟩
      have hs2 := hb2.size
      simp at hs2
      have hB2 : Below w.heap.size w w2 := Below.trans (by repeat (first | exact Below.refl _ _ | assumption | refine below_drewN ?_ _ | refine Below.drew ?_ | refine Below.alloc ?_ (by first | exact Nat.le_refl _ | omega | (simp; done) | (simp; omega)) _ | refine Below.setCell ?_ (by first | exact Nat.le_refl _ | omega | (simp; done) | (simp; omega)) _)) (hb2.mono (by first | omega | (simp; done) | (simp; omega)))
      have hacc2 : Own w2 w.heap.size (.slice (some ⟨w.heap.size, 0, none⟩) m m) m (Bp.firstTo ps left k) := own_keep (hown.row.alloc _) hb2
      have hbx2 : w2.cell? ⟨wr.heap.size, 1, none⟩ = some (.int .i64 v) := cell_later hb2 (by simp [go_sem])
      have hl2 := Lib.hid hown2.len
      have hn5 : n2 ≤ 5 := by have := Bp.bal_len s; rw [hl2.out] at this; exact this
      have hbd : Bp.Bd (Bp.firstTo ps left k) (99 * k) := Bp.firstTo_bd (Bp.fits_val Hfit.out) k (by rw [hl.out]; exact hk)
      have hcall := iBallotFirst_any A2 A' n2 c2 m c' (Bp.bal s) left _ _ w2 hown2.ints (h'.below hB2) (by omega) hnc2 Hbv.out
      rw [HX.out] at hcall
      have Hcall := Lib.hid hcall
      have Hbd := Lib.hid hbd
      clear hcall hbd hown hr hc1 hc2 hb2 hown2
      by_cases hX0 : 0 ≤ X
      · obtain ⟨cn, rfl⟩ := Int.eq_ofNat_of_zero_le hX0
        have hcm : cn < m := by omega
        obtain ⟨ha1, ha2⟩ := own_cell hacc2 cn hcm
        have hbd' := Hbd.out.nth cn
        have hset := own_only_set hacc2 cn
        obtain ⟨z, hzz⟩ : ∃ z, (Bp.firstTo ps left k).getD cn 0 = z := ⟨_, rfl⟩
        rw [hzz] at ha1 hbd'
        have hst := hset (z + v)
        have hnext : Hid (Own (w2.setCell ⟨w.heap.size, cn, none⟩ (.int .i64 (z + v))) w.heap.size (.slice (some ⟨w.heap.size, 0, none⟩) m m) m (Bp.firstTo ps left (k + 1))) := by
          have h1 := hst.1
          rw [Hstep.out, if_pos hX0, Int.toNat_natCast]
          unfold Bp.bump
          rw [hzz]
          exact h1
        have hlt2 := (hacc2.row.lt w.heap.size rfl).2
        have hbn : Hid (Below w.heap.size w (w2.setCell ⟨w.heap.size, cn, none⟩ (.int .i64 (z + v)))) := hB2.trans (below_only hst.2 (Nat.le_refl _) (by omega))
        clear hst hset hacc2 hzz hB2
        go_wp2_with (go_at_call 75; refine Hcall.out.mono ?_; rintro e w' ⟨rfl, rfl⟩)
        refine wp_region_still_tail 8 (by kernel_rfl) (by kernel_rfl) ?_
        simp only [List.take_succ_cons, List.take_zero, List.drop_succ_cons, List.drop_zero]
        repeat still_step
        refine wpStill_nil ?_
        change wpList _ _ _ _ _ w2.drew
        go_wp2_with fail
        go_roundw
        case rel => exact ⟨k + 1, by omega, by go_num, hnext.out, below_drewN hbn.out 1⟩
        case measure => simp [intOf]; omega
      · have hnext : Hid (Own w2 w.heap.size (.slice (some ⟨w.heap.size, 0, none⟩) m m) m (Bp.firstTo ps left (k + 1))) := by
          rw [Hstep.out, if_neg hX0]
          exact hacc2
        clear hacc2
        go_wp2_with (go_at_call 75; refine Hcall.out.mono ?_; rintro e w' ⟨rfl, rfl⟩)
        go_roundw
        case rel => exact ⟨k + 1, by omega, by go_num, hnext.out, hB2⟩
        case measure => simp [intOf]; omega
    · have hkn : k = n := by omega
      have Hkn := Lib.hid hkn
      clear hkn
      go_wp2_with fail
      go_ret
      refine ⟨w.heap.size, rfl, Nat.le_refl _, ?_, hb⟩
      unfold Bp.firsts
      rw [hl.out, ← Hkn.out]
      exact hown

set_option maxRecDepth 100000 in
set_option maxHeartbeats 400000 in
theorem sFirsts_any (A A' : Option Addr) (n c m c' : Nat) (ps : List Bp.Pile) (left : List Bool) (w : World) (h : Piles w w.heap.size A n ps) (h' : Bools w w.heap.size A' m left) (hn : n ≤ 1048576) (hfit : Bp.fits ps m = true) :
    Calls Try.prog 76 #[.slice A n c, .slice A' m c'] w (CountedI m (Bp.firsts ps left) w) := by
  have hl := Lib.hid h.1.1
  have hlm := Lib.hid h'.1
  have Hfit := Lib.hid hfit
  obtain ⟨m1, m5⟩ := Bp.fits_n hfit
  have hlen := Bp.fits_len hfit
  rw [hl.out] at hlen
  clear hfit
  obtain ⟨i0, hi0, hz0, hz1, hz2⟩ := info_parts int_info
  go_enter Try.func76, Try.ntmps76
  go_wp2_with (at_make; refine wpList_make_full _ rfl (.tmp 11) (.tmp 11) 31 rfl w.heap.size 3 i0 _ 1 Try.underlying31 hi0 hz0 hz1 .i64 .i64 m m m rfl rfl rfl rfl (by rw [hz2]; omega) (by unfold maxLen; omega) (Nat.le_refl _) ?_; intro w1 hown hg)
  have hown1 : Own w1 w.heap.size (.slice (some ⟨w.heap.size, 0, none⟩) m m) m (Bp.firstTo ps left 0) := by
    rw [Bp.firstTo, hlm.out]
    exact made_own hown
  have hb1 : Below w.heap.size w w1 := (Below.refl _ _).grown hg (Nat.le_refl _) (by simp)
  clear hown hg hi0 hz0 hz1 hz2
  go_loopw [6] (fun i wr => ∃ k : Nat, k ≤ n ∧ i = .int .i64 k ∧ Own wr w.heap.size (.slice (some ⟨w.heap.size, 0, none⟩) m m) m (Bp.firstTo ps left k) ∧ Below w.heap.size w wr) (fun i _ => n - (intOf i).toNat)
  case atStart => exact ⟨0, Nat.zero_le _, rfl, hown1, hb1⟩
  case round =>
    obtain ⟨k, hk, rfl, hown, hb⟩ := hrel
    clear hown1 hb1
    have hz := hb.size
    have hlt0 := (hown.row.lt w.heap.size rfl).2
    by_cases hlt : k < n
    · have hr := h.below hb
      obtain ⟨g, o, s, v, rfl, hgl, hcs, hcv, hss, hp⟩ := hr.at hlt
      have hkl : k < ps.length := by rw [hl.out]; exact hlt
      have hbv := Bp.fits_at Hfit.out k hkl
      rw [hp.out] at hbv
      have hv01 := Bp.fits_many_at Hfit.out k hkl
      rw [hp.out] at hv01
      have Hkl := Lib.hid hkl
      clear hkl
      have hbr := Bp.bfirst_range (Bp.bal s) left m hbv
      have hstep : Bp.firstTo ps left (k + 1) = if 0 ≤ Bp.bfirst (Bp.bal s) left then Bp.bump (Bp.firstTo ps left k) (Bp.bfirst (Bp.bal s) left).toNat v else Bp.firstTo ps left k := by
        rw [Bp.firstTo, hp.out]
      have Hbv := Lib.hid hbv
      clear hbv
      obtain ⟨X, hX⟩ : ∃ X, Bp.bfirst (Bp.bal s) left = X := ⟨_, rfl⟩
      rw [hX] at hbr hstep
      have HX := Lib.hid hX
      have Hstep := Lib.hid hstep
      clear hX hstep
      go_wp2_with fail
      refine (sBallotParse_any s _ hss).mono ?_
      rintro e w2 ⟨A2, n2, c2, rfl, hnc2, hown2, hb2⟩
      have hs2 := hb2.size
      have hB2 : Below w.heap.size w w2 := hb.trans (hb2.mono hz)
      have hacc2 : Own w2 w.heap.size (.slice (some ⟨w.heap.size, 0, none⟩) m m) m (Bp.firstTo ps left k) := own_keep hown.row hb2
      have hcv2 : w2.cell? ⟨g, o + k * 2 + 1, none⟩ = some (.int .i64 v) := cell_later hb2 hcv
      have hl2 := Lib.hid hown2.len
      have hn5 : n2 ≤ 5 := by have := Bp.bal_len s; rw [hl2.out] at this; exact this
      have hbd : Bp.Bd (Bp.firstTo ps left k) (99 * k) := Bp.firstTo_bd (Bp.fits_val Hfit.out) k (by rw [hl.out]; exact hk)
      have hcall := l1First_any A2 A' n2 c2 m c' (Bp.bal s) left _ _ w2 hown2.ints (h'.below hB2) (by omega) Hbv.out
      rw [HX.out] at hcall
      have Hcall := Lib.hid hcall
      have Hbd := Lib.hid hbd
      clear hcall hbd hown hr hcs hcv hb2 hown2
      by_cases hX0 : 0 ≤ X
      · obtain ⟨cn, rfl⟩ := Int.eq_ofNat_of_zero_le hX0
        have hcm : cn < m := by omega
        obtain ⟨ha1, ha2⟩ := own_cell hacc2 cn hcm
        have hbd' := Hbd.out.nth cn
        have hset := own_only_set hacc2 cn
        obtain ⟨z, hzz⟩ : ∃ z, (Bp.firstTo ps left k).getD cn 0 = z := ⟨_, rfl⟩
        rw [hzz] at ha1 hbd'
        have hst := hset (z + v)
        have hnext : Hid (Own (w2.setCell ⟨w.heap.size, cn, none⟩ (.int .i64 (z + v))) w.heap.size (.slice (some ⟨w.heap.size, 0, none⟩) m m) m (Bp.firstTo ps left (k + 1))) := by
          have h1 := hst.1
          rw [Hstep.out, if_pos hX0, Int.toNat_natCast]
          unfold Bp.bump
          rw [hzz]
          exact h1
        have hlt2 := (hacc2.row.lt w.heap.size rfl).2
        have hbn : Hid (Below w.heap.size w (w2.setCell ⟨w.heap.size, cn, none⟩ (.int .i64 (z + v)))) := hB2.trans (below_only hst.2 (Nat.le_refl _) (by omega))
        clear hst hset hacc2 hzz hB2
        go_wp2_with (go_at_call 93; refine Hcall.out.mono ?_; rintro e w' ⟨rfl, rfl⟩)
        refine wp_region_still_tail 13 (by kernel_rfl) (by kernel_rfl) ?_
        simp only [List.take_succ_cons, List.take_zero, List.drop_succ_cons, List.drop_zero]
        repeat still_step
        refine wpStill_nil ?_
        change wpList _ _ _ _ _ w2.drew
        go_wp2_with fail
        go_roundw
        case rel => exact ⟨k + 1, by omega, by go_num, hnext.out, below_drewN hbn.out 1⟩
        case measure => simp [intOf]; omega
      · have hnext : Hid (Own w2 w.heap.size (.slice (some ⟨w.heap.size, 0, none⟩) m m) m (Bp.firstTo ps left (k + 1))) := by
          rw [Hstep.out, if_neg hX0]
          exact hacc2
        clear hacc2
        go_wp2_with (go_at_call 93; refine Hcall.out.mono ?_; rintro e w' ⟨rfl, rfl⟩)
        go_roundw
        case rel => exact ⟨k + 1, by omega, by go_num, hnext.out, hB2⟩
        case measure => simp [intOf]; omega
    · have hkn : k = n := by omega
      have Hkn := Lib.hid hkn
      clear hkn
      go_wp2_with fail
      go_ret
      refine ⟨w.heap.size, rfl, Nat.le_refl _, ?_, hb⟩
      unfold Bp.firsts
      rw [hl.out, ← Hkn.out]
      exact hown
end Go.Proofs.Ytdcfpobjiofnmaa
