/-
  The walk of the reference's LastCounts: only full ballots count, at their last place.
-/
import Derived.Test.YtjknokphdagpbaaCountRes
import Derived.Test.YtjknokphdagpbaaCountSpec
namespace Go.Proofs.Ytjknokphdagpbaa
set_option linter.unusedVariables false
open Go.RowKit

theorem Bp.addTo_last (m : Nat) (v : Int) (b acc : List Int) (hm : 1 ≤ m) : Bp.addTo (Bp.ptsLast m) v b acc b.length = if b.length = m then Bp.bump acc (b.getD (m - 1) 0).toNat v else acc := by
  by_cases h : b.length = m
  · rw [if_pos h]
    obtain ⟨q, rfl⟩ : ∃ q, m = q + 1 := ⟨m - 1, by omega⟩
    rw [h]
    show Bp.bump (Bp.addTo _ v b acc q) (b.getD q 0).toNat (v * Bp.ptsLast ((q + 1 : Nat) : Int) q b.length) = _
    rw [Bp.addTo_none _ _ _ _ _ (fun i hi => by unfold Bp.ptsLast; rw [if_neg (by omega)])]
    unfold Bp.ptsLast
    rw [if_pos (by omega), Int.mul_one]
    rfl
  · rw [if_neg h]
    exact Bp.addTo_none _ _ _ _ _ (fun i hi => by unfold Bp.ptsLast; rw [if_neg (by omega)])

set_option maxRecDepth 100000 in
set_option maxHeartbeats 400000 in
theorem sLastCounts_any (A : Option Addr) (n c : Nat) (q : Int) (ps : List Bp.Pile) (w : World) (h : Piles w w.heap.size A n ps) (hn : n ≤ 1048576) :
    Calls Try.prog 21 #[.slice A n c, .int .i64 q] w (CountRes (Bp.fits ps q) (Bp.counted (Bp.ptsLast q) ps q.toNat) w) := by
  cases hf : Bp.fits ps q
  · have Hf := Lib.hid hf
    go_enter Try.func21, Try.ntmps21
    go_wp2_with fail
    refine (l3Fits_any A n c q ps _ h hn).mono ?_
    rintro e w1 ⟨rfl, hb1⟩
    have hz1 := hb1.size
    go_wp2_with fail
    go_ret2
    exact ⟨_, 0, 0, rfl, Nat.le_refl _, by omega, by rw [cres_no rfl]; exact res_empty hz1, (by repeat (first | exact Below.refl _ _ | assumption | refine below_drewN ?_ _ | refine Below.drew ?_ | refine Below.alloc ?_ (by first | exact Nat.le_refl _ | omega | (simp; done) | (simp; omega)) _ | refine Below.setCell ?_ (by first | exact Nat.le_refl _ | omega | (simp; done) | (simp; omega)) _))⟩
  · have Hfit := Lib.hid hf
    obtain ⟨q1, q5⟩ := Bp.fits_n hf
    obtain ⟨m, rfl⟩ := Int.eq_ofNat_of_zero_le (show 0 ≤ q by omega)
    rw [Int.toNat_natCast]
    have hl := Lib.hid h.1.1
    have hlen := Bp.fits_len hf
    rw [hl.out] at hlen
    obtain ⟨i0, hi0, hz0, hz1, hz2⟩ := info_parts int_info
    go_enter Try.func21, Try.ntmps21
    go_wp2_with fail
    refine (l3Fits_any A n c m ps _ h hn).mono ?_
    rintro e w1 ⟨rfl, hb1⟩
    have hs1 := hb1.size
    have h1 := (h.below hb1).mono hs1
    go_wp2_with (at_make; refine wpList_make_full _ rfl (.tmp 15) (.tmp 15) 24 rfl w1.heap.size 3 i0 _ 1 Try.underlying24 hi0 hz0 hz1 .i64 .i64 m m m rfl rfl rfl rfl (by rw [hz2]; omega) (by unfold maxLen; omega) (Nat.le_refl _) ?_; intro w2 hown hg)
    have hown1 := made_own hown
    have hb2 : Below w1.heap.size w1 w2 := (Below.refl _ _).grown hg (Nat.le_refl _) (by simp)
    clear hown hg hi0 hz0 hz1 hz2 hf
    go_loopw [7] (fun i wr => ∃ k : Nat, k ≤ n ∧ i = .int .i64 k ∧ Own wr w1.heap.size (.slice (some ⟨w1.heap.size, 0, none⟩) m m) m (Bp.countTo (Bp.ptsLast m) ps m k) ∧ Below w1.heap.size w1 wr) (fun i _ => n - (intOf i).toNat)
    case atStart => exact ⟨0, Nat.zero_le _, rfl, hown1, hb2⟩
    case round =>
      obtain ⟨k, hk, rfl, hown, hb⟩ := hrel
      clear hown1 hb2
      obtain ⟨wo, rfl⟩ : ∃ wo : World, wo = wr := ⟨_, rfl⟩
      have hz := hb.size
      have hlt0 := (hown.row.lt w1.heap.size rfl).2
      by_cases hlt : k < n
      · have hr := h1.below hb
        obtain ⟨g, o, s, v, rfl, hgl, hcs, hcv, hss, hp⟩ := hr.at hlt
        have hkl : k < ps.length := by rw [hl.out]; exact hlt
        have hbv := Lib.hid (Bp.fits_at Hfit.out k hkl)
        have hv01 := Bp.fits_many_at Hfit.out k hkl
        rw [hp.out] at hv01
        have Hkl := Lib.hid hkl
        clear hkl
        go_wp2_with fail
        refine (sBallotParse_any s _ hss).mono ?_
        rintro e w3 ⟨A2, n2, c2, rfl, hnc2, hown2, hb3⟩
        have hs2 := hb3.size
        have hB3 : Below w1.heap.size w1 w3 := hb.trans (hb3.mono hz)
        have hacc2 : Own w3 w1.heap.size (.slice (some ⟨w1.heap.size, 0, none⟩) m m) m (Bp.countTo (Bp.ptsLast m) ps m k) := own_keep hown.row hb3
        have hcv2 : w3.cell? ⟨g, o + k * 2 + 1, none⟩ = some (.int .i64 v) := cell_later hb3 hcv
        have hl2 := Lib.hid hown2.len
        have Hacc : Hid (Bp.Bd (Bp.countTo (Bp.ptsLast m) ps m k) (2475 * k)) := Bp.countTo_bd (Bp.fits_val Hfit.out) (Bp.ptsLast_bd m) k (by rw [hl.out]; exact hk)
        have hstep := Lib.hid (Bp.addTo_last m v (Bp.bal s) (Bp.countTo (Bp.ptsLast m) ps m k) (by omega))
        have hn5 : n2 ≤ 5 := by have := Bp.bal_len s; rw [hl2.out] at this; exact this
        clear hown hb hr hcs hcv hb3
        by_cases hnm : n2 = m
        · subst hnm
          obtain ⟨p, hp1⟩ : ∃ p : Nat, n2 = p + 1 := ⟨n2 - 1, by omega⟩
          have hpn : p < n2 := by omega
          have Hp1 := Lib.hid hp1
          clear hp1
          have hbi := hown2.ints
          obtain ⟨g3, o3, ci, rfl, hg3, hci, Hci⟩ := hbi.at hpn
          have hfit := Bp.bval_fit _ _ hbv.out p (by rw [hp.out, hl2.out]; exact hpn)
          rw [hp.out] at hfit
          have hc0 := hfit.1
          have hc1 := hfit.2.1
          rw [Hci.out] at hc0 hc1
          clear hfit
          obtain ⟨cn, rfl⟩ := Int.eq_ofNat_of_zero_le hc0
          have hcm : cn < n2 := by omega
          obtain ⟨ha1, ha2⟩ := own_cell hacc2 cn hcm
          have hbd' := Hacc.out.nth cn
          have hset := own_only_set hacc2 cn
          obtain ⟨z, hzz⟩ : ∃ z, (Bp.countTo (Bp.ptsLast n2) ps n2 k).getD cn 0 = z := ⟨_, rfl⟩
          rw [hzz] at ha1 hbd'
          have hst := hset (z + v)
          have hnext : Hid (Own (w3.setCell ⟨w1.heap.size, cn, none⟩ (.int .i64 (z + v))) w1.heap.size (.slice (some ⟨w1.heap.size, 0, none⟩) n2 n2) n2 (Bp.countTo (Bp.ptsLast n2) ps n2 (k + 1))) := by
            have h1 := hst.1
            have e : Bp.countTo (Bp.ptsLast n2) ps n2 (k + 1) = Bp.bump (Bp.countTo (Bp.ptsLast n2) ps n2 k) cn v := by
              show Bp.addTo _ (ps.getD k default).2 (Bp.bal (ps.getD k default).1) _ (Bp.bal (ps.getD k default).1).length = _
              rw [hp.out]
              show Bp.addTo _ v (Bp.bal s) _ (Bp.bal s).length = _
              rw [hstep.out, if_pos hl2.out, show n2 - 1 = p by have := Hp1.out; omega, Hci.out, Int.toNat_natCast]
            rw [e]
            unfold Bp.bump
            rw [hzz]
            exact h1
          have hbn : Hid (Below w1.heap.size w1 (w3.setCell ⟨w1.heap.size, cn, none⟩ (.int .i64 (z + v)))) := hB3.trans (below_only hst.2 (Nat.le_refl _) (by omega))
          have hlt3 := (hacc2.row.lt w1.heap.size rfl).2
          have hwr : IntKind.i64.wrap (p : Int) = (p : Int) := IntWalk.i64_in _ (by omega)
          have hw2 : (n2 : Int) - 1 = (p : Int) := by have := Hp1.out; omega
          clear hst hset hacc2 hzz hown2 hbi hB3
          go_wp2_with fail
          refine wp_region_still_tail 21 (by kernel_rfl) (by kernel_rfl) ?_
          simp only [List.take_succ_cons, List.take_zero, List.drop_succ_cons, List.drop_zero]
          repeat still_step
          refine wpStill_nil ?_
          change wpList _ _ _ _ _ w3.drew
          go_wp2_with fail
          go_roundw
          case rel => exact ⟨k + 1, by omega, by go_num, hnext.out, below_drewN hbn.out 1⟩
          case measure => simp [intOf]; omega
        · have hnext : Hid (Own w3 w1.heap.size (.slice (some ⟨w1.heap.size, 0, none⟩) m m) m (Bp.countTo (Bp.ptsLast m) ps m (k + 1))) := by
            show Own w3 w1.heap.size _ m (Bp.addTo _ (ps.getD k default).2 (Bp.bal (ps.getD k default).1) _ (Bp.bal (ps.getD k default).1).length)
            rw [hp.out]
            show Own w3 w1.heap.size _ m (Bp.addTo _ v (Bp.bal s) _ (Bp.bal s).length)
            rw [hstep.out, if_neg (by rw [hl2.out]; exact hnm)]
            exact hacc2
          clear hacc2 hown2
          go_wp2_with fail
          go_roundw
          case rel => exact ⟨k + 1, by omega, by go_num, hnext.out, hB3⟩
          case measure => simp [intOf]; omega
      · have hkn : k = n := by omega
        have Hkn := Lib.hid hkn
        clear hkn
        go_wp2_with fail
        go_ret2
        refine ⟨_, m, m, rfl, Nat.le_refl _, by omega, ?_, hb1.trans (hb.mono hs1)⟩
        rw [cres_yes rfl]
        unfold Bp.counted
        rw [hl.out, ← Hkn.out]
        exact hown.base hs1
end Go.Proofs.Ytjknokphdagpbaa
