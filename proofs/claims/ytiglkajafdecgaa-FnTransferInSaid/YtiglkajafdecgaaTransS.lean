/-
  The walks of the reference's transfer: sums of two fractions, the counts of all, the weights after a seat.
-/
import Derived.Test.YtiglkajafdecgaaTransMem
import Derived.Test.YtiglkajafdecgaaFirsts
import Derived.Test.YtiglkajafdecgaaFracWalks
import Derived.Deep.RegionHeld
namespace Go.Proofs.Ytiglkajafdecgaa
set_option linter.unusedVariables false
open Go.RowKit
set_option linter.unusedSimpArgs false

set_option maxRecDepth 100000 in
set_option maxHeartbeats 400000 in
/-- spec.l15Sum -/
theorem l15Sum_any (a b c d : Int) (w : World) (ha : -9999999 ≤ a ∧ a ≤ 9999999) (hb : 1 ≤ b ∧ b ≤ 9999999) (hc : -9999999 ≤ c ∧ c ≤ 9999999) (hd : 1 ≤ d ∧ d ≤ 9999999) :
    Calls Try.prog 77 #[.agg #[.int .i64 a, .int .i64 b], .agg #[.int .i64 c, .int .i64 d]] w fun e w' => e = .returned (.agg #[.int .i64 (Bp.fr (b * d) (a * d + c * b)).1, .int .i64 (Bp.fr (b * d) (a * d + c * b)).2]) ∧ Below w.heap.size w w' := by
  obtain ⟨a1, a2⟩ := ha
  obtain ⟨b1, b2⟩ := hb
  obtain ⟨c1, c2⟩ := hc
  obtain ⟨d1, d2⟩ := hd
  have m1 := Fp.mul_bd a d a1 a2 (by omega) d2
  have m2 := Fp.mul_bd c b c1 c2 (by omega) b2
  have m3 := Fp.mul_bd b d (by omega) b2 (by omega) d2
  have m4 := Fp.mul_pos b d b1 d1
  go_enter Try.func77, Try.ntmps77
  go_wp2_with fail
  refine (l5Of_any (a * d + c * b) (b * d) _ (by omega) (by omega) (by omega) (by omega)).mono ?_
  rintro e w1 ⟨rfl, hb1⟩
  have hB1 : Below w.heap.size w w1 := Below.trans (by repeat (first | exact Below.refl _ _ | assumption | refine below_drewN ?_ _ | refine Below.drew ?_ | refine Below.alloc ?_ (by first | exact Nat.le_refl _ | omega | (simp; done) | (simp; omega)) _ | refine Below.setCell ?_ (by first | exact Nat.le_refl _ | omega | (simp; done) | (simp; omega)) _)) (hb1.mono (by first | omega | (simp; done) | (simp; omega)))
  have hz1 := hb1.size; try simp at hz1; have F1 : Bx w1 [(⟨w.heap.size + 1 + 1, 0, none⟩, .int .i64 0), (⟨w.heap.size + 1 + 1, 1, none⟩, .int .i64 0)] := Bx.later hb1 (by simp [Bx, go_sem]); have G1 := F1; simp only [Bx, and_true] at G1
  go_wp2_with fail
  exact bodyPost_ret (v := .agg #[.int .i64 (Bp.fr (b * d) (a * d + c * b)).1, .int .i64 (Bp.fr (b * d) (a * d + c * b)).2]) (by simp [results, Try.results77, go_sem, G1]; exact ⟨rfl, rfl⟩) rfl ⟨rfl, (by repeat (first | exact Below.refl _ _ | assumption | refine below_drewN ?_ _ | refine Below.drew ?_ | refine Below.alloc ?_ (by first | exact Nat.le_refl _ | omega | (simp; done) | (simp; omega)) _ | refine Below.setCell ?_ (by first | exact Nat.le_refl _ | omega | (simp; done) | (simp; omega)) _))⟩

theorem own_form' {w : World} {base : Nat} {e : TypeId} {sz : Nat} {v : Value} {n : Nat} {xs : List Value} (h : w.ownsRow base e sz v n xs) (hn : v ≠ .slice none 0 0) : ∃ g c, v = .slice (some ⟨g, 0, none⟩) n c ∧ n ≤ c ∧ base ≤ g := by
  rcases h.2 with ⟨rfl, _⟩ | ⟨g, cap, cur, rfl, hb, _, hc, _⟩
  · exact absurd rfl hn
  · exact ⟨g, cap, rfl, hc, hb⟩
theorem pair_one (w : World) (x y : Value) (t : TypeId) : ∀ j u, [x, y][j]? = some u → (w.alloc (.cells #[x, y] t)).cell? ((⟨w.heap.size, 0, none⟩ : Addr).add j) = some u := by
  intro j u hj
  match j, hj with
  | 0, hj =>
    simp at hj
    subst hj
    simp [Addr.add]
  | 1, hj =>
    simp at hj
    subst hj
    simp [Addr.add]
theorem fcells_snoc (l : List Bp.Fr) (a b : Int) : fcells (l ++ [(a, b)]) = fcells l ++ [.int .i64 a, .int .i64 b] := by rw [fcells_append]; rfl
theorem fcells_rep (k : Nat) (a b : Int) : fcells (List.replicate (k + 1) (a, b)) = fcells (List.replicate k (a, b)) ++ [.int .i64 a, .int .i64 b] := by rw [List.replicate_succ', fcells_snoc]
/-- what a function of fractions leaves -/
def FracRes (m : Nat) (fs : List Bp.Fr) (w : World) (e : Ending) (w' : World) : Prop :=
  ∃ g c, e = .returned (.slice (some ⟨g, 0, none⟩) m c) ∧ w.heap.size ≤ g ∧ m ≤ c ∧ OwnF w' w.heap.size (.slice (some ⟨g, 0, none⟩) m c) m fs ∧ Below w.heap.size w w'
set_option maxRecDepth 100000 in
set_option maxHeartbeats 8000000 in
theorem l15Counts_any (A : Option Addr) (n c : Nat) (Wa : Option Addr) (wc : Nat) (La : Option Addr) (m lc : Nat) (ps : List Bp.Pile) (d : Int) (u : List Int) (lf : List Bool) (w : World)
    (h : Piles w w.heap.size A n ps) (hW : Fracs w w.heap.size Wa n (Bp.frs d u)) (hL : Bools w w.heap.size La m lf)
    (hfit : Bp.fits ps m = true) (hd : 1 ≤ d) (hd' : d ≤ 60) (hu : ∀ k, 0 ≤ u.getD k 0 ∧ u.getD k 0 ≤ d) (hs : Bp.psum ps ≤ 60) (hul : u.length = n) :
    Calls Try.prog 54 #[.slice A n c, .slice Wa n wc, .slice La m lc] w (FracRes m (Bp.frs d (Bp.nums ps u lf)) w) := by
  have hl := Lib.hid h.1.1
  have hlm := Lib.hid hL.1
  have Hfit := Lib.hid hfit
  obtain ⟨m1, m5⟩ := Bp.fits_n hfit
  have hlen := Bp.fits_len hfit
  rw [hl.out] at hlen
  have hv := Lib.hid (Bp.fits_val hfit)
  clear hfit
  obtain ⟨i0, hi0, hz0, hz1, hz2⟩ := info_parts frac_info
  go_enter Try.func54, Try.ntmps54
  go_wp2_with fail
  go_loopw [7, 8] (fun v i wr => ∃ (k g cc : Nat), k ≤ m ∧ i = .int .i64 k ∧ v = .slice (some ⟨g, 0, none⟩) k cc ∧ k ≤ cc ∧ OwnF wr w.heap.size (.slice (some ⟨g, 0, none⟩) k cc) k (List.replicate k (0, 1)) ∧ Below w.heap.size w wr) (fun _ i _ => m - (intOf i).toNat)
  case atStart => exact ⟨0, _, 0, Nat.zero_le _, rfl, rfl, Nat.le_refl _, World.ownsRow_lit w #[] 0 (Nat.le_refl _) (by decide) rfl, (by repeat (first | exact Below.refl _ _ | assumption | refine below_drewN ?_ _ | refine Below.drew ?_ | refine Below.alloc ?_ (by first | exact Nat.le_refl _ | omega | (simp; done) | (simp; omega)) _ | refine Below.setCell ?_ (by first | exact Nat.le_refl _ | omega | (simp; done) | (simp; omega)) _))⟩
  case round =>
    obtain ⟨k, g, cc, hk, rfl, rfl, hkc, hown, hb⟩ := hrel
    have hz := hb.size
    by_cases hlt : k < m
    · go_wp2_with (at_builtin; refine wpList_append_own _ rfl (.tmp 20) (.tmp 22) 45 rfl w.heap.size 44 i0 _ 2 16 Try.underlying45 hi0 hz0 hz1 hz2 rfl (by decide) (.slice (some ⟨g, 0, none⟩) k cc) k _ rfl (hown.row.alloc _) ⟨wr.heap.size, 0, none⟩ 1 1 [.int .i64 0, .int .i64 1] rfl rfl (pair_one _ _ _ _) (by simp [Value.oneCell']) (by unfold maxLen; omega) (by omega) (by simp; omega) ?_; intro v1 w1 hown1 hg1 hv1; obtain ⟨g1, c1, rfl, hkc1, hgb1⟩ := own_form' hown1 (fun e => by have := hv1.1 e; cases this.1); clear hv1)
      go_roundw
      case rel => exact ⟨k + 1, g1, c1, by omega, by go_num, rfl, hkc1, by unfold OwnF; rw [fcells_rep]; exact hown1, (hb.alloc hz _).grown hg1 (by simp; omega) (fun g hg => (hown.row.lt g hg).1)⟩
      case measure => simp [intOf]; omega
    · have hkm : k = m := by omega
      subst hkm
      have hown1 : OwnF wr w.heap.size (.slice (some ⟨g, 0, none⟩) k cc) k (Bp.frs d (Bp.numTo ps u lf 0)) := by
        have e : Bp.frs d (Bp.numTo ps u lf 0) = List.replicate k (0, 1) := by
          rw [Bp.numTo, hlm.out]
          unfold Bp.frs
          rw [List.map_replicate, Bp.fr_zero hd]
        rw [e]
        exact hown
      have hg0 : w.heap.size ≤ g := (hown.row.lt g rfl).1
      clear hown
      obtain ⟨wo, rfl⟩ : ∃ wo : World, wo = wr := ⟨_, rfl⟩
      obtain ⟨m, rfl⟩ : ∃ m : Nat, m = k := ⟨_, rfl⟩
      go_wp2_with fail
      go_loopw [9] (fun i wr => ∃ k : Nat, k ≤ n ∧ i = .int .i64 k ∧ OwnF wr w.heap.size (.slice (some ⟨g, 0, none⟩) m cc) m (Bp.frs d (Bp.numTo ps u lf k)) ∧ Below w.heap.size w wr) (fun i _ => n - (intOf i).toNat)
      case atStart => exact ⟨0, Nat.zero_le _, rfl, hown1, hb⟩
      case round =>
        obtain ⟨k, hk, rfl, hown, hb⟩ := hrel
        clear hown1
        have hz := hb.size
        have hlt0 := (hown.row.lt g rfl).2
        by_cases hlt : k < n
        · have hr := h.below hb
          obtain ⟨gp, o, s, v, rfl, hgl, hcs, hcv, hss, hp⟩ := hr.at hlt
          have hkl : k < ps.length := by rw [hl.out]; exact hlt
          have hbv := Bp.fits_at Hfit.out k hkl
          rw [hp.out] at hbv
          have hv01 := Bp.fits_many_at Hfit.out k hkl
          rw [hp.out] at hv01
          have Hkl := Lib.hid hkl
          clear hkl
          have hbr := Bp.bfirst_range (Bp.bal s) lf m hbv
          have hstep : Bp.numTo ps u lf (k + 1) = if 0 ≤ Bp.bfirst (Bp.bal s) lf then Bp.bump (Bp.numTo ps u lf k) (Bp.bfirst (Bp.bal s) lf).toNat (u.getD k 0 * v) else Bp.numTo ps u lf k := by
            rw [Bp.numTo, hp.out]
          have Hbv := Lib.hid hbv
          clear hbv
          obtain ⟨X, hX⟩ : ∃ X, Bp.bfirst (Bp.bal s) lf = X := ⟨_, rfl⟩
          rw [hX] at hbr hstep
          have HX := Lib.hid hX
          have Hstep := Lib.hid hstep
          clear hX hstep
          go_wp2_with fail
          refine (sBallotParse_any s _ hss).mono ?_
          rintro e w2 ⟨A2, n2, c2, rfl, hnc2, hown2, hb2⟩
          have hs2 := hb2.size
          have hB2 : Below w.heap.size w w2 := hb.trans (hb2.mono hz)
          have own2 : OwnF w2 w.heap.size (.slice (some ⟨g, 0, none⟩) m cc) m (Bp.frs d (Bp.numTo ps u lf k)) := hown.keep hb2
          have cv : w2.cell? ⟨gp, o + k * 2 + 1, none⟩ = some (.int .i64 v) := cell_later hb2 hcv
          have hl2 := Lib.hid hown2.len
          have hn5 : n2 ≤ 5 := by have := Bp.bal_len s; rw [hl2.out] at this; exact this
          have hcall := l1First_any A2 La n2 c2 m lc (Bp.bal s) lf _ _ w2 hown2.ints (hL.below hB2) (by omega) Hbv.out
          rw [HX.out] at hcall
          have Hcall := Lib.hid hcall
          clear hcall hown hr hcs hcv hb2 hown2
          by_cases hX0 : 0 ≤ X
          · obtain ⟨cn, rfl⟩ := Int.eq_ofNat_of_zero_le hX0
            have hcm : cn < m := by omega
            obtain ⟨gW, oW, a, b, rfl, hWz, cA, cB, hab⟩ := (hW.below hB2).at hlt
            have huk := hu k
            have b0 := Bp.numTo_bd' (lf := lf) (d := d) hv.out hs hu hd k (by rw [hl.out]; omega) cn
            have b1 := Bp.numTo_bd' (lf := lf) (d := d) hv.out hs hu hd (k + 1) (by rw [hl.out]; omega) cn
            have hnl : (Bp.numTo ps u lf k).length = m := by rw [Bp.numTo_len]; exact hlm.out
            have hst : Bp.numTo ps u lf (k + 1) = Bp.bump (Bp.numTo ps u lf k) cn (u.getD k 0 * v) := by
              rw [Hstep.out, if_pos (by omega), Int.toNat_natCast]
            rw [hst, Bp.bump_at _ _ _ _ (by omega), if_pos rfl] at b1
            obtain ⟨z, hzz⟩ : ∃ z, (Bp.numTo ps u lf k).getD cn 0 = z := ⟨_, rfl⟩
            rw [hzz] at b0 b1
            have hkv : 0 ≤ u.getD k 0 * v := Int.mul_nonneg huk.1 (by omega)
            have hab' : Bp.fr d (u.getD k 0) = (a, b) := by
              rw [← Bp.frs_at d u (by rw [hul]; exact hlt)]
              exact hab.out
            have hpart := Bp.fr_part (d := d) (a := u.getD k 0) (m := v) hd
            have hbab := Bp.fr_bd (d := d) (n := u.getD k 0) hd huk.1
            have hsum := Bp.fr_sum_same (d := d) (a := z) (b := u.getD k 0 * v) hd
            have hbz := Bp.fr_bd (d := d) (n := z) hd b0.1
            have hbx := Bp.fr_bd (d := d) (n := u.getD k 0 * v) hd hkv
            have hnx : Bp.frs d (Bp.numTo ps u lf (k + 1)) = (Bp.frs d (Bp.numTo ps u lf k)).set cn (Bp.fr d (z + u.getD k 0 * v)) := by
              rw [hst]
              unfold Bp.bump Bp.frs
              rw [hzz, List.map_set]
            obtain ⟨z1, z2, hz12⟩ : ∃ z1 z2, Bp.fr d z = (z1, z2) := ⟨_, _, rfl⟩
            obtain ⟨y1, y2, hy12⟩ : ∃ y1 y2, Bp.fr d (z + u.getD k 0 * v) = (y1, y2) := ⟨_, _, rfl⟩
            obtain ⟨x, y, hxy⟩ : ∃ x y, Bp.fr d (u.getD k 0 * v) = (x, y) := ⟨_, _, rfl⟩
            have hz0' : (Bp.frs d (Bp.numTo ps u lf k)).getD cn default = (z1, z2) := by rw [Bp.frs_at d _ (by omega), hzz, hz12]
            rw [hy12] at hnx hsum
            rw [hz12] at hbz hsum
            rw [hxy] at hbx hsum
            rw [hab'] at hbab
            rw [hab', hxy] at hpart
            simp only at hbz hbx hbab hsum hpart
            have hav : 0 ≤ a * v ∧ a * v ≤ 60 * 99 := ⟨Int.mul_nonneg hbab.1 (by omega), Int.mul_le_mul (by omega) (by omega) (by omega) (by omega)⟩
            obtain ⟨zz, hzv⟩ : ∃ zz, a * v = zz := ⟨_, rfl⟩
            rw [hzv] at hav hpart
            have hwr : IntKind.i64.wrap (a * v) = zz := by rw [hzv]; exact IntWalk.i64_in _ (by omega)
            have HZ : Hid (Fp.rn zz b = x ∧ Fp.rd zz b = y) := ⟨congrArg Prod.fst hpart, congrArg Prod.snd hpart⟩
            have HY := Lib.hid hsum
            have Hnx := Lib.hid hnx
            obtain ⟨⟨o0, o1⟩, f0, f1⟩ := ownF_cell own2 cn hcm
            rw [hz0'] at o0 o1
            dsimp only at o0 o1
            have hgl2 : g < w2.heap.size := (own2.row.lt g rfl).2
            have hgW : gW ≠ g := by omega
            have hgpg : gp ≠ g := by omega
            clear hsum hnx hst hzz huk hab' hz12 hy12 hxy hpart hz0' hab hzv
            have i1 : (0 : Int) ≤ (k : Int) := by omega
            have i2 : (k : Int) < (n : Int) := by omega
            have j1 : (0 : Int) ≤ (cn : Int) := by omega
            have j2 : (cn : Int) < (m : Int) := by omega
            have k1 : ¬ gW = g := hgW
            have k2 : ¬ g = gW := fun e => hgW e.symm
            have k3 : ¬ gp = g := hgpg
            have k4 : ¬ g = gp := fun e => hgpg e.symm
            go_wp2_with (go_at_call 76; refine Hcall.out.mono ?_; rintro e w' ⟨rfl, rfl⟩)
            refine wp_region_held_drew (S := fun w' => (w'.cell? ⟨gW, oW + k * 2, none⟩ = some (.int .i64 a) ∧ w'.cell? ⟨gW, oW + k * 2 + 1, none⟩ = some (.int .i64 b)) ∧ w'.cell? ⟨gp, o + k * 2 + 1, none⟩ = some (.int .i64 v)) (by kernel_rfl) ?_ (fun hHeld => ?_)
            · go_keep
            (refine wpAnyH_take (i := 0) (v := ?_) rfl (by kernel_rfl) (by kernel_rfl) (by kernel_rfl) (fun _ _ _ h => h) (Or.inl ⟨by rfl, ?_⟩) (by assumption) ?_); rotate_left 1; (focus ((intro wz hSz; (try dsimp only at hSz); go_simp; try (with_reducible rfl)); done)); (try simp only [Act.put, List.getElem_toArray, List.getElem_cons_zero, List.getElem_cons_succ, List.setIfInBounds_toArray, List.set_cons_zero, List.set_cons_succ])
            (refine wpAnyH_take (i := 1) (v := ?_) rfl (by kernel_rfl) (by kernel_rfl) (by kernel_rfl) (fun _ _ _ h => h) (Or.inl ⟨by rfl, ?_⟩) (by assumption) ?_); rotate_left 1; (focus ((intro wz hSz; (try dsimp only at hSz); go_simp; try (with_reducible rfl)); done)); (try simp only [Act.put, List.getElem_toArray, List.getElem_cons_zero, List.getElem_cons_succ, List.setIfInBounds_toArray, List.set_cons_zero, List.set_cons_succ])
            (refine wpAnyH_take (i := 2) (v := ?_) rfl (by kernel_rfl) (by kernel_rfl) (by kernel_rfl) (fun _ _ _ h => h) (Or.inl ⟨by rfl, ?_⟩) (by assumption) ?_); rotate_left 1; (focus ((intro wz hSz; (try dsimp only at hSz); go_simp; try (with_reducible rfl)); done)); (try simp only [Act.put, List.getElem_toArray, List.getElem_cons_zero, List.getElem_cons_succ, List.setIfInBounds_toArray, List.set_cons_zero, List.set_cons_succ])
            (refine wpAnyH_take (i := 3) (v := ?_) rfl (by kernel_rfl) (by kernel_rfl) (by kernel_rfl) (fun _ _ _ h => h) (Or.inl ⟨by rfl, ?_⟩) (by assumption) ?_); rotate_left 1; (focus ((intro wz hSz; (try dsimp only at hSz); go_simp; try (with_reducible rfl)); done)); (try simp only [Act.put, List.getElem_toArray, List.getElem_cons_zero, List.getElem_cons_succ, List.setIfInBounds_toArray, List.set_cons_zero, List.set_cons_succ])
            (refine wpAnyH_take (i := 4) (v := ?_) rfl (by kernel_rfl) (by kernel_rfl) (by kernel_rfl) (fun _ _ _ h => h) (Or.inl ⟨by rfl, ?_⟩) (by assumption) ?_); rotate_left 1; (focus ((intro wz hSz; (try dsimp only at hSz); go_simp; try (with_reducible rfl)); done)); (try simp only [Act.put, List.getElem_toArray, List.getElem_cons_zero, List.getElem_cons_succ, List.setIfInBounds_toArray, List.set_cons_zero, List.set_cons_succ])
            (refine wpAnyH_take (i := 6) (v := ?_) rfl (by kernel_rfl) (by kernel_rfl) (by kernel_rfl) (fun _ _ _ h => h) (Or.inl ⟨by rfl, ?_⟩) (by assumption) ?_); rotate_left 1; (focus ((intro wz hSz; (try dsimp only at hSz); go_simp; try (with_reducible rfl)); done)); (try simp only [Act.put, List.getElem_toArray, List.getElem_cons_zero, List.getElem_cons_succ, List.setIfInBounds_toArray, List.set_cons_zero, List.set_cons_succ])
            (refine wpAnyH_take (i := 7) (v := ?_) rfl (by kernel_rfl) (by kernel_rfl) (by kernel_rfl) (fun _ _ _ h => h) (Or.inl ⟨by rfl, ?_⟩) (by assumption) ?_); rotate_left 1; (focus ((intro wz hSz; (try dsimp only at hSz); go_simp; try (with_reducible rfl)); done)); (try simp only [Act.put, List.getElem_toArray, List.getElem_cons_zero, List.getElem_cons_succ, List.setIfInBounds_toArray, List.set_cons_zero, List.set_cons_succ])
            (refine wpAnyH_take (i := 8) (v := ?_) rfl (by kernel_rfl) (by kernel_rfl) (by kernel_rfl) (fun _ _ _ h => h) (Or.inl ⟨by rfl, ?_⟩) (by assumption) ?_); rotate_left 1; (focus ((intro wz hSz; (try dsimp only at hSz); go_simp; try (with_reducible rfl)); done)); (try simp only [Act.put, List.getElem_toArray, List.getElem_cons_zero, List.getElem_cons_succ, List.setIfInBounds_toArray, List.set_cons_zero, List.set_cons_succ])
            (refine wpAnyH_take (i := 9) (v := ?_) rfl (by kernel_rfl) (by kernel_rfl) (by kernel_rfl) (fun _ _ _ h => h) (Or.inl ⟨by rfl, ?_⟩) (by assumption) ?_); rotate_left 1; (focus ((intro wz hSz; (try dsimp only at hSz); go_simp; try (with_reducible rfl)); done)); (try simp only [Act.put, List.getElem_toArray, List.getElem_cons_zero, List.getElem_cons_succ, List.setIfInBounds_toArray, List.set_cons_zero, List.set_cons_succ])
            (refine wpAnyH_take (i := 10) (v := ?_) rfl (by kernel_rfl) (by kernel_rfl) (by kernel_rfl) (fun _ _ _ h => h) (Or.inl ⟨by rfl, ?_⟩) (by assumption) ?_); rotate_left 1; (focus ((intro wz hSz; (try dsimp only at hSz); go_simp; try (with_reducible rfl)); done)); (try simp only [Act.put, List.getElem_toArray, List.getElem_cons_zero, List.getElem_cons_succ, List.setIfInBounds_toArray, List.set_cons_zero, List.set_cons_succ])
            (refine wpAnyH_take (i := 11) (v := ?_) rfl (by kernel_rfl) (by kernel_rfl) (by kernel_rfl) (fun _ _ _ h => h) (Or.inl ⟨by rfl, ?_⟩) (by assumption) ?_); rotate_left 1; (focus ((intro wz hSz; (try dsimp only at hSz); go_simp; try (with_reducible rfl)); done)); (try simp only [Act.put, List.getElem_toArray, List.getElem_cons_zero, List.getElem_cons_succ, List.setIfInBounds_toArray, List.set_cons_zero, List.set_cons_succ])
            (refine wpAnyH_take (i := 12) (v := ?_) rfl (by kernel_rfl) (by kernel_rfl) (by kernel_rfl) (fun _ _ _ h => h) (Or.inl ⟨by rfl, ?_⟩) (by assumption) ?_); rotate_left 1; (focus ((intro wz hSz; (try dsimp only at hSz); go_simp; try (with_reducible rfl)); done)); (try simp only [Act.put, List.getElem_toArray, List.getElem_cons_zero, List.getElem_cons_succ, List.setIfInBounds_toArray, List.set_cons_zero, List.set_cons_succ])
            (refine wpAnyH_take (i := 13) (v := ?_) rfl (by kernel_rfl) (by kernel_rfl) (by kernel_rfl) (fun _ _ _ h => h) (Or.inl ⟨by rfl, ?_⟩) (by assumption) ?_); rotate_left 1; (focus ((intro wz hSz; (try dsimp only at hSz); go_simp; try (with_reducible rfl)); done)); (try simp only [Act.put, List.getElem_toArray, List.getElem_cons_zero, List.getElem_cons_succ, List.setIfInBounds_toArray, List.set_cons_zero, List.set_cons_succ])
            (refine wpAnyH_take (i := 14) (v := ?_) rfl (by kernel_rfl) (by kernel_rfl) (by kernel_rfl) (fun _ _ _ h => h) (Or.inl ⟨by rfl, ?_⟩) (by assumption) ?_); rotate_left 1; (focus ((intro wz hSz; (try dsimp only at hSz); go_simp; try (with_reducible rfl)); done)); (try simp only [Act.put, List.getElem_toArray, List.getElem_cons_zero, List.getElem_cons_succ, List.setIfInBounds_toArray, List.set_cons_zero, List.set_cons_succ])
            (refine wpAnyH_take (i := 15) (v := ?_) rfl (by kernel_rfl) (by kernel_rfl) (by kernel_rfl) (fun _ _ _ h => h) (Or.inl ⟨by rfl, ?_⟩) (by assumption) ?_); rotate_left 1; (focus ((intro wz hSz; (try dsimp only at hSz); go_simp; try (with_reducible rfl)); done)); (try simp only [Act.put, List.getElem_toArray, List.getElem_cons_zero, List.getElem_cons_succ, List.setIfInBounds_toArray, List.set_cons_zero, List.set_cons_succ])
            (refine wpAnyH_take (i := 16) (v := ?_) rfl (by kernel_rfl) (by kernel_rfl) (by kernel_rfl) (fun _ _ _ h => h) (Or.inl ⟨by rfl, ?_⟩) (by assumption) ?_); rotate_left 1; (focus ((intro wz hSz; (try dsimp only at hSz); go_simp; try (with_reducible rfl)); done)); (try simp only [Act.put, List.getElem_toArray, List.getElem_cons_zero, List.getElem_cons_succ, List.setIfInBounds_toArray, List.set_cons_zero, List.set_cons_succ])
            (refine wpAnyH_take (i := 17) (v := ?_) rfl (by kernel_rfl) (by kernel_rfl) (by kernel_rfl) (fun _ _ _ h => h) (Or.inl ⟨by rfl, ?_⟩) (by assumption) ?_); rotate_left 1; (focus ((intro wz hSz; (try dsimp only at hSz); go_simp; try (with_reducible rfl)); done)); (try simp only [Act.put, List.getElem_toArray, List.getElem_cons_zero, List.getElem_cons_succ, List.setIfInBounds_toArray, List.set_cons_zero, List.set_cons_succ])
            (refine wpAnyH_take (i := 18) (v := ?_) rfl (by kernel_rfl) (by kernel_rfl) (by kernel_rfl) (fun _ _ _ h => h) (Or.inl ⟨by rfl, ?_⟩) (by assumption) ?_); rotate_left 1; (focus ((intro wz hSz; (try dsimp only at hSz); go_simp; try (with_reducible rfl)); done)); (try simp only [Act.put, List.getElem_toArray, List.getElem_cons_zero, List.getElem_cons_succ, List.setIfInBounds_toArray, List.set_cons_zero, List.set_cons_succ])
            (refine wpAnyH_take (i := 19) (v := ?_) rfl (by kernel_rfl) (by kernel_rfl) (by kernel_rfl) (fun _ _ _ h => h) (Or.inl ⟨by rfl, ?_⟩) (by assumption) ?_); rotate_left 1; (focus ((intro wz hSz; (try dsimp only at hSz); go_simp; try (with_reducible rfl)); done)); (try simp only [Act.put, List.getElem_toArray, List.getElem_cons_zero, List.getElem_cons_succ, List.setIfInBounds_toArray, List.set_cons_zero, List.set_cons_succ])
            (refine wpAnyH_take (i := 20) (v := ?_) rfl (by kernel_rfl) (by kernel_rfl) (by kernel_rfl) (fun _ _ _ h => h) (Or.inl ⟨by rfl, ?_⟩) (by assumption) ?_); rotate_left 1; (focus ((intro wz hSz; (try dsimp only at hSz); go_simp; try (with_reducible rfl)); done)); (try simp only [Act.put, List.getElem_toArray, List.getElem_cons_zero, List.getElem_cons_succ, List.setIfInBounds_toArray, List.set_cons_zero, List.set_cons_succ])
            (refine wpAnyH_take (i := 21) (v := ?_) rfl (by kernel_rfl) (by kernel_rfl) (by kernel_rfl) (fun _ _ _ h => h) (Or.inl ⟨by rfl, ?_⟩) (by assumption) ?_); rotate_left 1; (focus ((intro wz hSz; (try dsimp only at hSz); go_simp; try (with_reducible rfl)); done)); (try simp only [Act.put, List.getElem_toArray, List.getElem_cons_zero, List.getElem_cons_succ, List.setIfInBounds_toArray, List.set_cons_zero, List.set_cons_succ])
            refine wpAnyH_ready (rs := [5, 22]) (by kernel_rfl) (by simp) ?_
            refine AllReadyH.cons rfl (fun K hK => ?_) ?_
            · go_simp
              refine hK.out _ _ ?_ (fun hHeld5 => ?_)
              · go_keep
              clear hK K
              (refine wpAnyH_ready (rs := [22]) (by kernel_rfl) (by simp) ?_); (refine AllReadyH.cons rfl (fun K hK => ?_) AllReadyH.nil); go_simp; (go_wp2_with (go_at_call 78; refine (l5Of_any zz b w2.drew (by omega) (by omega) (by omega) (by omega)).mono ?_; rintro e w3 ⟨rfl, hb3⟩; rw [HZ.out.1, HZ.out.2]; have hb4 : Below w2.heap.size w2 w3 := (Below.refl _ _).drew.trans (hb3.mono (show w2.heap.size ≤ w2.heap.size from Nat.le_refl _)); have r0 := (hb4.cell (p := ⟨gW, oW + k * 2, none⟩) (show gW < w2.heap.size by omega)).trans cA; have r1 := (hb4.cell (p := ⟨gW, oW + k * 2 + 1, none⟩) (show gW < w2.heap.size by omega)).trans cB; have r2 := (hb4.cell (p := ⟨gp, o + k * 2 + 1, none⟩) (show gp < w2.heap.size by omega)).trans cv; have s4 := (hb4.cell (p := ⟨g, cn * 2, none⟩) hgl2).trans o0; have s5 := (hb4.cell (p := ⟨g, cn * 2 + 1, none⟩) hgl2).trans o1; have s6 := (hb4.frozen (p := ⟨g, cn * 2, none⟩) hgl2).trans f0; have s7 := (hb4.frozen (p := ⟨g, cn * 2 + 1, none⟩) hgl2).trans f1)); (refine hK.out _ _ ?_ (fun hHeld22 => ?_)); (focus ((try dsimp only); go_keep)); clear hK K
              (refine wpAnyH_ready (rs := [23]) (by kernel_rfl) (by simp) ?_); (refine AllReadyH.cons rfl (fun K hK => ?_) AllReadyH.nil); go_simp; (go_wp2_with (go_at_call 77; refine (l15Sum_any z1 z2 x y w3 (by omega) (by omega) (by omega) (by omega)).mono ?_; rintro e w5 ⟨rfl, hb5⟩; rw [HY.out]; have v0 := (hb5.cell (p := ⟨gW, oW + k * 2, none⟩) (show gW < w3.heap.size by have := hb4.size; omega)).trans r0; have v1 := (hb5.cell (p := ⟨gW, oW + k * 2 + 1, none⟩) (show gW < w3.heap.size by have := hb4.size; omega)).trans r1; have v2 := (hb5.cell (p := ⟨gp, o + k * 2 + 1, none⟩) (show gp < w3.heap.size by have := hb4.size; omega)).trans r2; have s8 := (hb5.cell (p := ⟨g, cn * 2, none⟩) (show g < w3.heap.size by have := hb4.size; omega)).trans s4; have s9 := (hb5.cell (p := ⟨g, cn * 2 + 1, none⟩) (show g < w3.heap.size by have := hb4.size; omega)).trans s5; have t6 := (hb5.frozen (p := ⟨g, cn * 2, none⟩) (show g < w3.heap.size by have := hb4.size; omega)).trans s6; have t7 := (hb5.frozen (p := ⟨g, cn * 2 + 1, none⟩) (show g < w3.heap.size by have := hb4.size; omega)).trans s7)); (refine hK.out _ _ ?_ (fun hHeld23 => ?_)); (focus ((try dsimp only); go_keep)); clear hK K
              (refine wpAnyH_take (i := 24) (v := ?_) rfl (by kernel_rfl) (by kernel_rfl) (by kernel_rfl) (fun _ _ _ h => h) (Or.inl ⟨by rfl, ?_⟩) (by assumption) ?_); rotate_left 1; (focus ((intro wz hSz; (try dsimp only at hSz); go_simp; try (with_reducible rfl)); done)); (try simp only [Act.put, List.getElem_toArray, List.getElem_cons_zero, List.getElem_cons_succ, List.setIfInBounds_toArray, List.set_cons_zero, List.set_cons_succ])
              (refine wpAnyH_ready (rs := [25]) (by kernel_rfl) (by simp) ?_); (refine AllReadyH.cons rfl (fun K hK => ?_) AllReadyH.nil); go_simp; (refine hK.out _ _ ?_ (fun hHeld25 => ?_)); (focus ((try dsimp only); go_keep)); clear hK K
              (refine wpAnyH_done (by kernel_rfl) ?_ _)
              have hb6 : Below w2.heap.size w2 w5 := hb4.trans (hb5.mono hb4.size)
              have own6 : OwnF w5 w.heap.size (.slice (some ⟨g, 0, none⟩) m cc) m (Bp.frs d (Bp.numTo ps u lf k)) := own2.keep hb6
              obtain ⟨own7, hgr⟩ := ownF_set own6 cn hcm y1 y2
              rw [← Hnx.out] at own7
              have hB7 : Below w.heap.size w ((w5.setCell ⟨g, cn * 2, none⟩ (.int .i64 y1)).setCell ⟨g, cn * 2 + 1, none⟩ (.int .i64 y2)) := ((hB2.trans (hb6.mono hB2.size)).setCell hg0 _).setCell hg0 _
              clear own2 own6 hb6 hgr hb3 hb4 hb5 r0 r1 r2 s4 s5 s6 s7 v0 v1 v2 s8 s9 t6 t7 o0 o1 f0 f1 cA cB cv hHeld hHeld5 hHeld22 hHeld23 hHeld25
              go_wp2_with fail
              go_roundw
              case rel => exact ⟨k + 1, by omega, by go_num, own7, hB7⟩
              case measure => simp [intOf]; omega
            · refine AllReadyH.cons rfl (fun K hK => ?_) AllReadyH.nil
              go_simp
              go_wp2_with (go_at_call 78; refine (l5Of_any zz b w2.drew (by omega) (by omega) (by omega) (by omega)).mono ?_; rintro e w3 ⟨rfl, hb3⟩; rw [HZ.out.1, HZ.out.2]; have hb4 : Below w2.heap.size w2 w3 := (Below.refl _ _).drew.trans (hb3.mono (show w2.heap.size ≤ w2.heap.size from Nat.le_refl _)); have r0 := (hb4.cell (p := ⟨gW, oW + k * 2, none⟩) (show gW < w2.heap.size by omega)).trans cA; have r1 := (hb4.cell (p := ⟨gW, oW + k * 2 + 1, none⟩) (show gW < w2.heap.size by omega)).trans cB; have r2 := (hb4.cell (p := ⟨gp, o + k * 2 + 1, none⟩) (show gp < w2.heap.size by omega)).trans cv; have s4 := (hb4.cell (p := ⟨g, cn * 2, none⟩) hgl2).trans o0; have s5 := (hb4.cell (p := ⟨g, cn * 2 + 1, none⟩) hgl2).trans o1; have s6 := (hb4.frozen (p := ⟨g, cn * 2, none⟩) hgl2).trans f0; have s7 := (hb4.frozen (p := ⟨g, cn * 2 + 1, none⟩) hgl2).trans f1)
              refine hK.out _ _ ?_ (fun hHeld22 => ?_)
              · go_keep
              clear hK K
              (refine wpAnyH_ready (rs := [5]) (by kernel_rfl) (by simp) ?_); (refine AllReadyH.cons rfl (fun K hK => ?_) AllReadyH.nil); go_simp; (refine hK.out _ _ ?_ (fun hHeld5 => ?_)); (focus ((try dsimp only); go_keep)); clear hK K
              (refine wpAnyH_ready (rs := [23]) (by kernel_rfl) (by simp) ?_); (refine AllReadyH.cons rfl (fun K hK => ?_) AllReadyH.nil); go_simp; (go_wp2_with (go_at_call 77; refine (l15Sum_any z1 z2 x y w3 (by omega) (by omega) (by omega) (by omega)).mono ?_; rintro e w5 ⟨rfl, hb5⟩; rw [HY.out]; have v0 := (hb5.cell (p := ⟨gW, oW + k * 2, none⟩) (show gW < w3.heap.size by have := hb4.size; omega)).trans r0; have v1 := (hb5.cell (p := ⟨gW, oW + k * 2 + 1, none⟩) (show gW < w3.heap.size by have := hb4.size; omega)).trans r1; have v2 := (hb5.cell (p := ⟨gp, o + k * 2 + 1, none⟩) (show gp < w3.heap.size by have := hb4.size; omega)).trans r2; have s8 := (hb5.cell (p := ⟨g, cn * 2, none⟩) (show g < w3.heap.size by have := hb4.size; omega)).trans s4; have s9 := (hb5.cell (p := ⟨g, cn * 2 + 1, none⟩) (show g < w3.heap.size by have := hb4.size; omega)).trans s5; have t6 := (hb5.frozen (p := ⟨g, cn * 2, none⟩) (show g < w3.heap.size by have := hb4.size; omega)).trans s6; have t7 := (hb5.frozen (p := ⟨g, cn * 2 + 1, none⟩) (show g < w3.heap.size by have := hb4.size; omega)).trans s7)); (refine hK.out _ _ ?_ (fun hHeld23 => ?_)); (focus ((try dsimp only); go_keep)); clear hK K
              (refine wpAnyH_take (i := 24) (v := ?_) rfl (by kernel_rfl) (by kernel_rfl) (by kernel_rfl) (fun _ _ _ h => h) (Or.inl ⟨by rfl, ?_⟩) (by assumption) ?_); rotate_left 1; (focus ((intro wz hSz; (try dsimp only at hSz); go_simp; try (with_reducible rfl)); done)); (try simp only [Act.put, List.getElem_toArray, List.getElem_cons_zero, List.getElem_cons_succ, List.setIfInBounds_toArray, List.set_cons_zero, List.set_cons_succ])
              (refine wpAnyH_ready (rs := [25]) (by kernel_rfl) (by simp) ?_); (refine AllReadyH.cons rfl (fun K hK => ?_) AllReadyH.nil); go_simp; (refine hK.out _ _ ?_ (fun hHeld25 => ?_)); (focus ((try dsimp only); go_keep)); clear hK K
              (refine wpAnyH_done (by kernel_rfl) ?_ _)
              have hb6 : Below w2.heap.size w2 w5 := hb4.trans (hb5.mono hb4.size)
              have own6 : OwnF w5 w.heap.size (.slice (some ⟨g, 0, none⟩) m cc) m (Bp.frs d (Bp.numTo ps u lf k)) := own2.keep hb6
              obtain ⟨own7, hgr⟩ := ownF_set own6 cn hcm y1 y2
              rw [← Hnx.out] at own7
              have hB7 : Below w.heap.size w ((w5.setCell ⟨g, cn * 2, none⟩ (.int .i64 y1)).setCell ⟨g, cn * 2 + 1, none⟩ (.int .i64 y2)) := ((hB2.trans (hb6.mono hB2.size)).setCell hg0 _).setCell hg0 _
              clear own2 own6 hb6 hgr hb3 hb4 hb5 r0 r1 r2 s4 s5 s6 s7 v0 v1 v2 s8 s9 t6 t7 o0 o1 f0 f1 cA cB cv hHeld hHeld5 hHeld22 hHeld23 hHeld25
              go_wp2_with fail
              go_roundw
              case rel => exact ⟨k + 1, by omega, by go_num, own7, hB7⟩
              case measure => simp [intOf]; omega
          · have hnext : Hid (OwnF w2 w.heap.size (.slice (some ⟨g, 0, none⟩) m cc) m (Bp.frs d (Bp.numTo ps u lf (k + 1)))) := by
              rw [Hstep.out, if_neg hX0]
              exact own2
            clear own2
            go_wp2_with (go_at_call 76; refine Hcall.out.mono ?_; rintro e w' ⟨rfl, rfl⟩)
            go_roundw
            case rel => exact ⟨k + 1, by omega, by go_num, hnext.out, hB2⟩
            case measure => simp [intOf]; omega
        · have hkn : k = n := by omega
          have Hkn := Lib.hid hkn
          clear hkn
          go_wp2_with fail
          go_ret
          refine ⟨g, cc, rfl, hg0, hkc, ?_, hb⟩
          unfold Bp.nums
          rw [hl.out, ← Hkn.out]
          exact hown
end Go.Proofs.Ytiglkajafdecgaa
