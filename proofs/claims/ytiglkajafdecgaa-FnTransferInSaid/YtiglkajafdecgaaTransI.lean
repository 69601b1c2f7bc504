/-
  The walks of the program's transfer: the counts of all candidates, the weights after a seat.
-/
import Derived.Test.YtiglkajafdecgaaRepeat
import Derived.Test.YtiglkajafdecgaaFirsts
import Derived.Test.YtiglkajafdecgaaFracWalks
import Derived.Deep.RegionHeld
namespace Go.Proofs.Ytiglkajafdecgaa
set_option linter.unusedVariables false
open Go.RowKit

theorem frs_add {d a b : Int} (hd : 1 ≤ d) (hd' : d ≤ 60) (ha : 0 ≤ a ∧ a ≤ d * 60) (hb : 0 ≤ b ∧ b ≤ d * 60) (hs : a + b ≤ d * 60) : Fp.add (Bp.fr d a).1 (Bp.fr d a).2 (Bp.fr d b).1 (Bp.fr d b).2 = ((Bp.fr d (a + b)).1, (Bp.fr d (a + b)).2, true) := by
  have v1 := Bp.fr_vld (d := d) (n := a) hd (by omega) (by omega) (by omega)
  have v2 := Bp.fr_vld (d := d) (n := b) hd (by omega) (by omega) (by omega)
  have v3 := Bp.fr_vld (d := d) (n := a + b) hd (by omega) (by omega) (by omega)
  have e := Bp.fr_sum_same (d := d) (a := a) (b := b) hd
  unfold Fp.add Fp.redo
  rw [v1, v2, Bool.and_true, if_pos rfl]
  have e1 := congrArg Prod.fst e
  have e2 := congrArg Prod.snd e
  rw [show Fp.rn _ _ = _ from e1, show Fp.rd _ _ = _ from e2, v3, if_pos rfl]
theorem frs_part {d a m : Int} (hd : 1 ≤ d) (hd' : d ≤ 60) (ha : 0 ≤ a ∧ a ≤ d) (hm : 0 ≤ m ∧ m ≤ 99) (hs : a * m ≤ d * 60) : Fp.tms (Bp.fr d a).1 (Bp.fr d a).2 m 1 = ((Bp.fr d (a * m)).1, (Bp.fr d (a * m)).2, true) := by
  have v1 := Bp.fr_vld (d := d) (n := a) hd (by omega) (by omega) (by omega)
  have v2 := Bp.fr_vld (d := 1) (n := m) (by omega) (by omega) (by omega) (by omega)
  rw [Bp.fr_one] at v2
  have h0 : 0 ≤ a * m := Int.mul_nonneg ha.1 hm.1
  have v3 := Bp.fr_vld (d := d) (n := a * m) hd (by omega) (by omega) (by omega)
  have e := Bp.fr_part (d := d) (a := a) (m := m) hd
  unfold Fp.tms Fp.redo
  rw [v1, v2, Bool.and_true, if_pos rfl, Int.mul_one]
  have e1 := congrArg Prod.fst e
  have e2 := congrArg Prod.snd e
  rw [show Fp.rn _ _ = _ from e1, show Fp.rd _ _ = _ from e2, v3, if_pos rfl]

set_option maxRecDepth 100000 in
set_option maxHeartbeats 2000000 in
theorem counts_any (T : Nat) (A : Option Addr) (n c : Nat) (A' : Option Addr) (m c' W wc L lc : Nat) (ps : List Bp.Pile) (d : Int) (u : List Int) (lf : List Bool) (w : World)
    (hT0 : w.cell? ⟨T, 0, none⟩ = some (.slice A n c)) (hT1 : w.cell? ⟨T, 1, none⟩ = some (.slice A' m c')) (hT2 : w.cell? ⟨T, 2, none⟩ = some (.slice (some ⟨W, 0, none⟩) n wc)) (hT3 : w.cell? ⟨T, 3, none⟩ = some (.slice (some ⟨L, 0, none⟩) m lc))
    (h : Piles w w.heap.size A n ps) (hnc : n ≤ c) (hW : Fracs w w.heap.size (some ⟨W, 0, none⟩) n (Bp.frs d u)) (hL : Bools w w.heap.size (some ⟨L, 0, none⟩) m lf)
    (hfit : Bp.fits ps m = true) (hd : 1 ≤ d) (hd' : d ≤ 60) (hu : ∀ k, 0 ≤ u.getD k 0 ∧ u.getD k 0 ≤ d) (hs : Bp.psum ps ≤ 60) (hul : u.length = n) :
    Calls Try.prog 67 #[.pointer (some ⟨T, 0, none⟩)] w fun e w' => ∃ g, e = .returned (.slice (some ⟨g, 0, none⟩) m m) ∧ w.heap.size ≤ g ∧ OwnF w' w.heap.size (.slice (some ⟨g, 0, none⟩) m m) m (Bp.frs d (Bp.nums ps u lf)) ∧ Below w.heap.size w w' := by
  have hl := Lib.hid h.1.1
  have hlm := Lib.hid hL.1
  have Hfit := Lib.hid hfit
  obtain ⟨m1, m5⟩ := Bp.fits_n hfit
  have hlen := Bp.fits_len hfit
  rw [hl.out] at hlen
  have hv := Lib.hid (Bp.fits_val hfit)
  have tT := lt_of_cell hT0
  simp only at tT
  clear hfit
  go_enter Try.func67, Try.ntmps67
  go_wp2_with (go_at_call 66; refine (repeat_any w.heap.size 0 1 m (by omega) _ (by simp [go_sem]) (by simp [go_sem])).mono ?_; rintro e w1 ⟨g, rfl, hg, hown, hb1⟩; simp only [World.size_alloc] at hg hown hb1; have hB1 : Below w.heap.size w w1 := ((Below.refl _ _).alloc (Nat.le_refl _) _).trans (hb1.mono (by omega)); have cT0 := (hB1.cell (p := ⟨T, 0, none⟩) tT).trans hT0)
  have hown1 : OwnF w1 w.heap.size (.slice (some ⟨g, 0, none⟩) m m) m (Bp.frs d (Bp.numTo ps u lf 0)) := by
    have e : Bp.frs d (Bp.numTo ps u lf 0) = List.replicate m (0, 1) := by
      rw [Bp.numTo, hlm.out]
      unfold Bp.frs
      rw [List.map_replicate, Bp.fr_zero hd]
    rw [e]
    exact hown.base (by omega)
  have hg0 : w.heap.size ≤ g := by omega
  clear hown hg hb1
  go_loopw [22] (fun i wr => ∃ k : Nat, k ≤ n ∧ i = .int .i64 k ∧ OwnF wr w.heap.size (.slice (some ⟨g, 0, none⟩) m m) m (Bp.frs d (Bp.numTo ps u lf k)) ∧ Below w.heap.size w wr) (fun i _ => n - (intOf i).toNat)
  case atStart => exact ⟨0, Nat.zero_le _, rfl, hown1, hB1⟩
  case round =>
    obtain ⟨k, hk, rfl, hown, hb⟩ := hrel
    clear hown1 hB1 cT0
    have hz := hb.size
    have hlt0 := (hown.row.lt g rfl).2
    by_cases hlt : k < n
    · have hr := h.below hb
      obtain ⟨gp, o, s, v, rfl, hgl, hc1, hc2, hss, hp⟩ := hr.at hlt
      have hkl : k < ps.length := by rw [hl.out]; exact hlt
      have hbv := Bp.fits_at Hfit.out k hkl
      rw [hp.out] at hbv
      have hv01 := Bp.fits_many_at Hfit.out k hkl
      rw [hp.out] at hv01
      have Hkl := Lib.hid hkl
      clear hkl
      have hbr := Bp.bfirst_range (Bp.bal s) lf m hbv
      have hstep : Bp.numTo ps u lf (k + 1) = if 0 ≤ Bp.bfirst (Bp.bal s) lf then Bp.bump (Bp.numTo ps u lf k) (Bp.bfirst (Bp.bal s) lf).toNat (u.getD k 0 * v) else Bp.numTo ps u lf k := by
        rw [Bp.numTo, hp.out]
      have Hbv := Lib.hid hbv
      clear hbv
      obtain ⟨X, hX⟩ : ∃ X, Bp.bfirst (Bp.bal s) lf = X := ⟨_, rfl⟩
      rw [hX] at hbr hstep
      have HX := Lib.hid hX
      have Hstep := Lib.hid hstep
      clear hX hstep
      have cT3 := (hb.cell (p := ⟨T, 3, none⟩) tT).trans hT3
      have cT2 := (hb.cell (p := ⟨T, 2, none⟩) tT).trans hT2
      go_wp2_with fail
      obtain ⟨wp, hwp⟩ : ∃ wp, wr.alloc (.cells #[.string s, .int .i64 v] 57) = wp := ⟨_, rfl⟩
      have hpb : Below wr.heap.size wr wp := by rw [← hwp]; exact (Below.refl _ _).alloc (Nat.le_refl _) _
      have hpz : wp.heap.size = wr.heap.size + 1 := by rw [← hwp]; simp
      have p0 : wp.drew.cell? ⟨wr.heap.size, 0, none⟩ = some (.string s) := by rw [← hwp]; simp [go_sem]
      have p1 : wp.drew.cell? ⟨wr.heap.size, 1, none⟩ = some (.int .i64 v) := by rw [← hwp]; simp [go_sem]
      have pT3 : wp.drew.cell? ⟨T, 3, none⟩ = some (.slice (some ⟨L, 0, none⟩) m lc) := (hpb.cell (p := ⟨T, 3, none⟩) (show T < wr.heap.size by omega)).trans cT3
      have pT2 : wp.drew.cell? ⟨T, 2, none⟩ = some (.slice (some ⟨W, 0, none⟩) n wc) := (hpb.cell (p := ⟨T, 2, none⟩) (show T < wr.heap.size by omega)).trans cT2
      have hBp : Below w.heap.size w wp.drew := hb.trans (hpb.drew.mono hz)
      have pown : OwnF wp.drew w.heap.size (.slice (some ⟨g, 0, none⟩) m m) m (Bp.frs d (Bp.numTo ps u lf k)) := hown.keep hpb.drew
      rw [hwp]
      clear hwp hown cT3 cT2 hb hc1 hc2 hr
      go_region_held (fun w' => (w'.cell? ⟨wr.heap.size, 0, none⟩ = some (.string s) ∧ w'.cell? ⟨wr.heap.size, 1, none⟩ = some (.int .i64 v)) ∧ w'.cell? ⟨T, 3, none⟩ = some (.slice (some ⟨L, 0, none⟩) m lc)) (go_keep)
        (first
          | (go_at_call 65; refine (ballot_any s v _ hss).mono ?_; rintro e w2 ⟨A2, n2, c2, rfl, hnc2, hown2, hb2⟩; have q0 := (hb2.cell (p := ⟨wr.heap.size, 0, none⟩) (show wr.heap.size < wp.heap.size by omega)).trans p0; have q1 := (hb2.cell (p := ⟨wr.heap.size, 1, none⟩) (show wr.heap.size < wp.heap.size by omega)).trans p1; have qT3 := (hb2.cell (p := ⟨T, 3, none⟩) (show T < wp.heap.size by omega)).trans pT3; have hB2 : Below w.heap.size w w2 := hBp.trans (hb2.mono (show w.heap.size ≤ wp.heap.size by omega)); have hn5 : n2 ≤ 5 := by { have h3 := Bp.bal_len s; have h4 := hown2.len; omega })
          | (go_at_call 84; refine (iBallotFirst_any A2 (some ⟨L, 0, none⟩) n2 c2 m lc (Bp.bal s) lf _ _ w2 hown2.ints (hL.below hB2) (by omega) hnc2 Hbv.out).mono ?_; rw [HX.out]; rintro e w' ⟨rfl, rfl⟩))
      have own2 : OwnF w2 w.heap.size (.slice (some ⟨g, 0, none⟩) m m) m (Bp.frs d (Bp.numTo ps u lf k)) := pown.keep hb2
      have qT2 := (hb2.cell (p := ⟨T, 2, none⟩) (show T < wp.heap.size by omega)).trans pT2
      have hs2 : wp.heap.size ≤ w2.heap.size := hb2.size
      clear pown pT2 pT3 p0 p1 hpb hown2 hb2 hBp
      by_cases hX0 : 0 ≤ X
      · obtain ⟨cn, rfl⟩ := Int.eq_ofNat_of_zero_le hX0
        have hcm : cn < m := by omega
        obtain ⟨gW, oW, a, b, hAW, hWz, cA, cB, hab⟩ := (hW.below hB2).at hlt
        injection hAW with hAW; injection hAW with e1 e2
        subst e1; subst e2
        rw [Nat.zero_add] at cA cB
        have hWz : W < w2.heap.size := by have := hB2.size; omega
        have huk := hu k
        have b0 := Bp.numTo_bd' (lf := lf) (d := d) hv.out hs hu hd k (by rw [hl.out]; omega) cn
        have b1 := Bp.numTo_bd' (lf := lf) (d := d) hv.out hs hu hd (k + 1) (by rw [hl.out]; omega) cn
        have hnl : (Bp.numTo ps u lf k).length = m := by rw [Bp.numTo_len]; exact hlm.out
        have hst : Bp.numTo ps u lf (k + 1) = Bp.bump (Bp.numTo ps u lf k) cn (u.getD k 0 * v) := by
          rw [Hstep.out, if_pos (by omega), Int.toNat_natCast]
        rw [hst, Bp.bump_at _ _ _ _ (by omega), if_pos rfl] at b1
        obtain ⟨z, hzz⟩ : ∃ z, (Bp.numTo ps u lf k).getD cn 0 = z := ⟨_, rfl⟩
        rw [hzz] at b0 b1
        have hkv : 0 ≤ u.getD k 0 * v := Int.mul_nonneg huk.1 (by omega)
        have hab' : Bp.fr d (u.getD k 0) = (a, b) := by
          rw [← Bp.frs_at d u (by rw [hul]; exact hlt)]
          exact hab.out
        have htm := frs_part (d := d) (a := u.getD k 0) (m := v) hd hd' huk (by omega) (by omega)
        have had := frs_add (d := d) (a := z) (b := u.getD k 0 * v) hd hd' (by omega) (by omega) (by omega)
        have hnx : Bp.frs d (Bp.numTo ps u lf (k + 1)) = (Bp.frs d (Bp.numTo ps u lf k)).set cn (Bp.fr d (z + u.getD k 0 * v)) := by
          rw [hst]
          unfold Bp.bump Bp.frs
          rw [hzz, List.map_set]
        obtain ⟨z1, z2, hz12⟩ : ∃ z1 z2, Bp.fr d z = (z1, z2) := ⟨_, _, rfl⟩
        obtain ⟨y1, y2, hy12⟩ : ∃ y1 y2, Bp.fr d (z + u.getD k 0 * v) = (y1, y2) := ⟨_, _, rfl⟩
        have hz0 : (Bp.frs d (Bp.numTo ps u lf k)).getD cn default = (z1, z2) := by rw [Bp.frs_at d _ (by omega), hzz, hz12]
        rw [hz12, hy12] at had
        rw [hy12] at hnx
        rw [hab'] at htm
        obtain ⟨x, y, hxy⟩ : ∃ x y, Bp.fr d (u.getD k 0 * v) = (x, y) := ⟨_, _, rfl⟩
        rw [hxy] at htm had
        have Htm := Lib.hid htm
        have Had := Lib.hid had
        have Hnx := Lib.hid hnx
        have Hz0 := Lib.hid hz0
        clear htm had hnx hz0 b0 b1 hst hzz hkv huk hab' hz12 hy12 hxy
        have i1 : (0 : Int) ≤ (k : Int) := by omega
        have i2 : (k : Int) < (n : Int) := by omega
        have k1 : ¬ T = w2.heap.size := by omega
        have k2 : ¬ w2.heap.size = T := by omega
        have k3 : ¬ wr.heap.size = w2.heap.size := by omega
        have k4 : ¬ w2.heap.size = wr.heap.size := by omega
        have k5 : ¬ W = w2.heap.size := by omega
        have k6 : ¬ w2.heap.size = W := by omega
        go_wp2_with fail
        go_region_held (fun w' => (w'.cell? ⟨T, 2, none⟩ = some (.slice (some ⟨W, 0, none⟩) n wc) ∧ w'.cell? ⟨wr.heap.size, 1, none⟩ = some (.int .i64 v)) ∧ w'.cell? ⟨W, k * 2, none⟩ = some (.int .i64 a) ∧ w'.cell? ⟨W, k * 2 + 1, none⟩ = some (.int .i64 b)) (go_keep)
          (first
            | (go_at_call 85; refine (iFracTimes_any a b v 1 w2.drew).mono ?_; rintro e w3 ⟨rfl, hb3⟩; rw [Htm.out]; have hb4 : Below w2.heap.size w2 w3 := (Below.refl _ _).drew.trans (hb3.mono (show w2.heap.size ≤ w2.heap.size from Nat.le_refl _)); have rT2 := (hb4.cell (p := ⟨T, 2, none⟩) (show T < w2.heap.size by omega)).trans qT2; have r1 := (hb4.cell (p := ⟨wr.heap.size, 1, none⟩) (show wr.heap.size < w2.heap.size by omega)).trans q1; have rA := (hb4.cell (p := ⟨W, k * 2, none⟩) (show W < w2.heap.size from hWz)).trans cA; have rB := (hb4.cell (p := ⟨W, k * 2 + 1, none⟩) (show W < w2.heap.size from hWz)).trans cB)
            | (go_at_call 85; refine (iFracTimes_any a b v 1 (w2.alloc (.cells #[.int .i64 0, .int .i64 0] 44)).drew).mono ?_; rintro e w3 ⟨rfl, hb3⟩; rw [Htm.out]; have hb4 : Below w2.heap.size w2 w3 := ((Below.refl _ _).alloc (Nat.le_refl _) _).drew.trans (hb3.mono (by simp)); have hz3 : w2.heap.size + 1 ≤ w3.heap.size := (by have h8 := hb3.size; simpa using h8); have n0 := (hb3.cell (p := ⟨w2.heap.size, 0, none⟩) (by simp)).trans (show World.cell? _ _ = some (.int .i64 0) by simp [go_sem]); have n1 := (hb3.cell (p := ⟨w2.heap.size, 1, none⟩) (by simp)).trans (show World.cell? _ _ = some (.int .i64 0) by simp [go_sem]); have n2 := (hb3.frozen (p := ⟨w2.heap.size, 0, none⟩) (by simp)).trans (show World.frozen? _ _ = false by simp [go_sem]); have n3 := (hb3.frozen (p := ⟨w2.heap.size, 1, none⟩) (by simp)).trans (show World.frozen? _ _ = false by simp [go_sem]); have rT2 := (hb4.cell (p := ⟨T, 2, none⟩) (show T < w2.heap.size by omega)).trans qT2; have r1 := (hb4.cell (p := ⟨wr.heap.size, 1, none⟩) (show wr.heap.size < w2.heap.size by omega)).trans q1; have rA := (hb4.cell (p := ⟨W, k * 2, none⟩) (show W < w2.heap.size from hWz)).trans cA; have rB := (hb4.cell (p := ⟨W, k * 2 + 1, none⟩) (show W < w2.heap.size from hWz)).trans cB))
        all_goals first
          | (obtain ⟨P7, hP7⟩ : ∃ P7, P7 = w3.heap.size := ⟨_, rfl⟩
             obtain ⟨w4, hw4⟩ : ∃ w4, w3.alloc (.cells #[.int .i64 x, .int .i64 y] 44) = w4 := ⟨_, rfl⟩
             rw [hw4, ← hP7]
             have s0 : w4.drew.cell? ⟨P7, 0, none⟩ = some (.int .i64 x) := by rw [← hw4, hP7]; simp [go_sem]
             have s1 : w4.drew.cell? ⟨P7, 1, none⟩ = some (.int .i64 y) := by rw [← hw4, hP7]; simp [go_sem]
             have hb5 : Below w2.heap.size w2 w4 := by rw [← hw4]; exact hb4.alloc hb4.size _
             have hPz : w2.heap.size ≤ P7 := by rw [hP7]; exact hb4.size
             have hPl : P7 < w4.heap.size := by rw [hP7, ← hw4]; simp)
          | (obtain ⟨P7, hP7⟩ : ∃ P7, P7 = w2.heap.size := ⟨_, rfl⟩
             obtain ⟨w4, hw4⟩ : ∃ w4, (w3.setCell ⟨w2.heap.size, 0, none⟩ (.int .i64 x)).setCell ⟨w2.heap.size, 1, none⟩ (.int .i64 y) = w4 := ⟨_, rfl⟩
             rw [hw4, ← hP7]
             have s0 : w4.drew.cell? ⟨P7, 0, none⟩ = some (.int .i64 x) := by rw [← hw4, hP7]; simp [go_sem, n0]
             have s1 : w4.drew.cell? ⟨P7, 1, none⟩ = some (.int .i64 y) := by rw [← hw4, hP7]; simp [go_sem, n1]
             have hb5 : Below w2.heap.size w2 w4 := by rw [← hw4]; exact (hb4.setCell (Nat.le_refl _) _).setCell (Nat.le_refl _) _
             have hPz : w2.heap.size ≤ P7 := by omega
             have hPl : P7 < w4.heap.size := by rw [hP7, ← hw4]; simp; omega)
        all_goals
          have hB5 : Below w.heap.size w w4.drew := hB2.trans (hb5.drew.mono (by omega))
          have own5 : OwnF w4.drew w.heap.size (.slice (some ⟨g, 0, none⟩) m m) m (Bp.frs d (Bp.numTo ps u lf k)) := own2.keep hb5.drew
          have hs5 : w2.heap.size ≤ w4.heap.size := hb5.size
          clear hw4 hP7 hb3 hb4 rT2 r1 rA rB hb5 qT2 q0 q1 cA cB k1 k2 k3 k4 k5 k6
          obtain ⟨⟨o0, o1⟩, f0, f1⟩ := ownF_cell own5 cn hcm
          rw [Hz0.out] at o0 o1
          dsimp only at o0 o1
          have j1 : (0 : Int) ≤ (cn : Int) := by omega
          have j2 : (cn : Int) < (m : Int) := by omega
          have hgl4 : g < w4.heap.size := (own5.row.lt g rfl).2
          have k1 : ¬ P7 = g := by omega
          have k2 : ¬ g = P7 := by omega
          go_wp2_with fail
          go_region_with
            (first
              | (go_at_call 29; refine (iFracAdd_any z1 z2 x y w4.drew).mono ?_; rintro e w5 ⟨rfl, hb6⟩; rw [Had.out]; have s2 := (hb6.cell (p := ⟨P7, 0, none⟩) hPl).trans s0; have s3 := (hb6.cell (p := ⟨P7, 1, none⟩) hPl).trans s1; have s4 := (hb6.cell (p := ⟨g, cn * 2, none⟩) hgl4).trans o0; have s5 := (hb6.cell (p := ⟨g, cn * 2 + 1, none⟩) hgl4).trans o1; have s6 := (hb6.frozen (p := ⟨g, cn * 2, none⟩) hgl4).trans f0; have s7 := (hb6.frozen (p := ⟨g, cn * 2 + 1, none⟩) hgl4).trans f1))
          all_goals
            have own6 : OwnF w5 w.heap.size (.slice (some ⟨g, 0, none⟩) m m) m (Bp.frs d (Bp.numTo ps u lf k)) := own5.keep hb6
            obtain ⟨own7, hgr⟩ := ownF_set own6 cn hcm y1 y2
            rw [← Hnx.out] at own7
            have hB7 : Below w.heap.size w ((w5.setCell ⟨g, cn * 2, none⟩ (.int .i64 y1)).setCell ⟨g, cn * 2 + 1, none⟩ (.int .i64 y2)) := ((hB5.trans (hb6.mono hB5.size)).setCell hg0 _).setCell hg0 _
            clear own5 own6 hb6 hgr s0 s1 s2 s3 s4 s5 s6 s7 o0 o1 f0 f1 hB5
            go_wp2_with fail
            go_roundw
            case rel => exact ⟨k + 1, by omega, by go_num, own7, hB7⟩
            case measure => simp [intOf]; omega
      · have hnext : Hid (OwnF w2 w.heap.size (.slice (some ⟨g, 0, none⟩) m m) m (Bp.frs d (Bp.numTo ps u lf (k + 1)))) := by
          rw [Hstep.out, if_neg hX0]
          exact own2
        clear own2
        go_wp2_with fail
        go_roundw
        case rel => exact ⟨k + 1, by omega, by go_num, hnext.out, hB2⟩
        case measure => simp [intOf]; omega
    · have hkn : k = n := by omega
      have Hkn := Lib.hid hkn
      clear hkn
      go_wp2_with fail
      go_ret
      refine ⟨g, rfl, hg0, ?_, hb⟩
      unfold Bp.nums
      rw [hl.out, ← Hkn.out]
      exact hown
end Go.Proofs.Ytiglkajafdecgaa
