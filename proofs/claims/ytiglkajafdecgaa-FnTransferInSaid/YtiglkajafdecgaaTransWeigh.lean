/-
  The walk of the reference's transfer: the weights after a seat.
-/
import Derived.Test.YtiglkajafdecgaaTransS
import Derived.Deep.DeepCutAuto
namespace Go.Proofs.Ytiglkajafdecgaa
set_option linter.unusedVariables false
open Go.RowKit

theorem weigh_snoc {ps : List Bp.Pile} {u : List Int} {lf : List Bool} {who over N D : Int} {k : Nat} {x : Int} {a b : Int} (hx : (if Bp.bfirst (Bp.bal (ps.getD k default).1) lf = who then u.getD k 0 * over else u.getD k 0 * N) = x) (hab : Bp.fr D x = (a, b)) : fcells (Bp.frs D (Bp.weighTo ps u lf who over N (k + 1))) = fcells (Bp.frs D (Bp.weighTo ps u lf who over N k)) ++ [.int .i64 a, .int .i64 b] := by
  rw [Bp.weighTo, hx, ← fcells_snoc, ← hab]
  unfold Bp.frs
  rw [List.map_append]
  rfl
set_option maxRecDepth 100000 in
set_option maxHeartbeats 4000000 in
theorem l15Weigh_any (A : Option Addr) (n c : Nat) (Wa : Option Addr) (wc : Nat) (La : Option Addr) (m lc : Nat) (who : Int) (ps : List Bp.Pile) (d N q : Int) (u : List Int) (lf : List Bool) (w : World)
    (h : Piles w w.heap.size A n ps) (hW : Fracs w w.heap.size Wa n (Bp.frs d u)) (hL : Bools w w.heap.size La m lf)
    (hfit : Bp.fits ps m = true) (hd : 1 ≤ d) (hd' : d ≤ 60) (hN : 1 ≤ N) (hN' : N ≤ 3600) (hq : 1 ≤ q) (hq' : q ≤ 61) (hqN : q * d ≤ N) (hu : ∀ k, 0 ≤ u.getD k 0 ∧ u.getD k 0 ≤ d) (hul : u.length = n) :
    Calls Try.prog 57 #[.slice A n c, .slice Wa n wc, .slice La m lc, .int .i64 who, .agg #[.int .i64 (Bp.fr d N).1, .int .i64 (Bp.fr d N).2], .int .i64 q] w (FracRes n (Bp.frs (d * N) (Bp.weigh ps u lf who (N - q * d) N)) w) := by
  have hl := Lib.hid h.1.1
  have Hfit := Lib.hid hfit
  have hlen := Bp.fits_len hfit
  rw [hl.out] at hlen
  obtain ⟨i0, hi0, hz0, hz1, hz2⟩ := info_parts frac_info
  obtain ⟨p1, p2, hp⟩ : ∃ p1 p2, Bp.fr d N = (p1, p2) := ⟨_, _, rfl⟩
  have hbd := Bp.fr_bd (d := d) (n := N) hd (by omega)
  have hp1 := Bp.fr_num_pos (d := d) (n := N) hd hN
  have hov := Bp.fr_over d N q
  have hwe : ∀ a : Int, Bp.fr ((Bp.fr d a).2 * (Bp.fr d N).1) ((Bp.fr d a).1 * ((Bp.fr d N).1 - q * (Bp.fr d N).2)) = Bp.fr (d * N) (a * (N - q * d)) := fun a => Bp.fr_weigh hd hN
  rw [hp] at hbd hp1 hov ⊢
  simp only [hp] at hbd hp1 hov hwe ⊢
  have hz0' : 0 ≤ q * p2 := Int.mul_nonneg (by omega) (by omega)
  have hz1' : q * p2 ≤ 61 * 60 := Int.mul_le_mul hq' (by omega) (by omega) (by omega)
  obtain ⟨z, hz⟩ : ∃ z, q * p2 = z := ⟨_, rfl⟩
  rw [hz] at hz0' hz1' hov
  simp only [hz] at hwe
  have hpz : 0 ≤ p1 - z := by
    rcases Int.lt_or_le (p1 - z) 0 with h1 | h1
    · have h2 : (p1 - z) * N < 0 := Int.mul_neg_of_neg_of_pos h1 (by omega)
      have h3 : 0 ≤ (N - q * d) * p1 := Int.mul_nonneg (by omega) (by omega)
      omega
    · exact h1
  obtain ⟨ov, hov'⟩ : ∃ ov, p1 - z = ov := ⟨_, rfl⟩
  rw [hov'] at hpz
  simp only [hov'] at hwe
  have hwr : IntKind.i64.wrap (q * p2) = z := by rw [hz]; exact IntWalk.i64_in _ (by omega)
  have hwr2 : IntKind.i64.wrap (p1 - z) = ov := by rw [hov']; exact IntWalk.i64_in _ (by omega)
  have hovb : ov ≤ 3600 := by omega
  obtain ⟨over, hover⟩ : ∃ over, N - q * d = over := ⟨_, rfl⟩
  rw [hover]
  simp only [hover] at hwe
  have Hwe := Lib.hid hwe
  have Hhu := Lib.hid hu
  have Hz := Lib.hid hz
  clear hwe hov hqN hp hz hov' hover hu hfit
  go_enter Try.func57, Try.ntmps57
  go_upto_region 2 with (fail)
  obtain ⟨w1, hw1⟩ : ∃ w1, (w.alloc (.cells #[.int .i64 p1, .int .i64 p2] 44)).alloc (.cells #[] 44) = w1 := ⟨_, rfl⟩
  have hb1 : Below w.heap.size w w1 := by rw [← hw1]; exact ((Below.refl _ _).alloc (Nat.le_refl _) _).alloc (by simp) _
  have hwz1 : w.heap.size + 1 < w1.heap.size := by rw [← hw1]; simp
  have b0 : w1.cell? ⟨w.heap.size, 0, none⟩ = some (.int .i64 p1) := by rw [← hw1]; simp [go_sem]
  have b1 : w1.cell? ⟨w.heap.size, 1, none⟩ = some (.int .i64 p2) := by rw [← hw1]; simp [go_sem]
  have own1 : OwnF w1 (w.heap.size + 1) (.slice (some ⟨w.heap.size + 1, 0, none⟩) 0 0) 0 (Bp.frs (d * N) (Bp.weighTo ps u lf who over N 0)) := by
    rw [← hw1]
    have := World.ownsRow_lit (w.alloc (.cells #[.int .i64 p1, .int .i64 p2] 44)) (e := 44) (size := 2) #[] 0 (base := w.heap.size + 1) (by simp) (by decide) rfl
    simp at this
    exact this
  rw [hw1]
  clear hw1
  go_wp2_with fail
  go_loopw [13, 15] (fun v i wr => ∃ (k g cc : Nat), k ≤ n ∧ i = .int .i64 k ∧ v = .slice (some ⟨g, 0, none⟩) k cc ∧ k ≤ cc ∧ OwnF wr (w.heap.size + 1) (.slice (some ⟨g, 0, none⟩) k cc) k (Bp.frs (d * N) (Bp.weighTo ps u lf who over N k)) ∧ Below (w.heap.size + 1) w1 wr) (fun _ i _ => n - (intOf i).toNat)
  case atStart => exact ⟨0, _, 0, Nat.zero_le _, rfl, rfl, Nat.le_refl _, own1, Below.refl _ _⟩
  case round =>
    obtain ⟨k, g, cc, hk, rfl, rfl, hkc, hown, hbb⟩ := hrel
    clear own1
    have hb : Below w.heap.size w wr := hb1.trans (hbb.mono (by omega))
    have hsz := hbb.size
    by_cases hlt : k < n
    · have hr := h.below hb
      obtain ⟨gp, o, s, v, rfl, hgl, hcs, hcv, hss, hp⟩ := hr.at hlt
      have hkl : k < ps.length := by rw [hl.out]; exact hlt
      have hbv := Bp.fits_at Hfit.out k hkl
      rw [hp.out] at hbv
      have hku : k < u.length := by rw [hul]; exact hlt
      obtain ⟨X, hX⟩ : ∃ X, Bp.bfirst (Bp.bal s) lf = X := ⟨_, rfl⟩
      have hX' : Bp.bfirst (Bp.bal (ps.getD k default).1) lf = X := by rw [hp.out]; exact hX
      have HX := Lib.hid hX
      have HX' := Lib.hid hX'
      have Hbv := Lib.hid hbv
      have Hku := Lib.hid hku
      have f0 := (hbb.cell (p := ⟨w.heap.size, 0, none⟩) (Nat.lt_succ_self _)).trans b0
      have f1 := (hbb.cell (p := ⟨w.heap.size, 1, none⟩) (Nat.lt_succ_self _)).trans b1
      clear hkl hX hX' hbv hku
      go_wp2_with fail
      refine (sBallotParse_any s _ hss).mono ?_
      rintro e w2 ⟨A2, n2, c2, rfl, hnc2, hown2, hb2⟩
      have hs2 := hb2.size
      have hB2 : Below w.heap.size w w2 := hb.trans (hb2.mono (by omega))
      have hBB2 : Below (w.heap.size + 1) w1 w2 := hbb.trans (hb2.mono (by omega))
      have own2 := hown.keep hb2
      have Hgl : Hid (g < w2.heap.size) := (own2.row.lt g rfl).2
      have hl2 := Lib.hid hown2.len
      have hn5 : n2 ≤ 5 := by have := Bp.bal_len s; rw [hl2.out] at this; exact this
      have hcall := l1First_any A2 La n2 c2 m lc (Bp.bal s) lf
      have q0 := (hb2.cell (p := ⟨w.heap.size, 0, none⟩) (by show w.heap.size < wr.heap.size; omega)).trans f0
      have q1 := (hb2.cell (p := ⟨w.heap.size, 1, none⟩) (by show w.heap.size < wr.heap.size; omega)).trans f1
      obtain ⟨gW, oW, a, b, rfl, hWz, cA, cB, hab⟩ := (hW.below hB2).at hlt
      have hab' : Bp.fr d (u.getD k 0) = (a, b) := by
        rw [← Bp.frs_at d u Hku.out]
        exact hab.out
      have huk := Hhu.out k
      have hbab := Bp.fr_bd (d := d) (n := u.getD k 0) hd huk.1
      have hwe := Hwe.out (u.getD k 0)
      rw [hab'] at hbab hwe
      simp only at hbab hwe
      have Hab := Lib.hid hab'
      have Hw := Lib.hid hwe
      clear hown hr hcs hcv f0 f1 hab hab' hwe hb
      go_upto_region 8 with (fail)
      obtain ⟨w3, hw3⟩ : ∃ w3, w2.alloc (.cells #[.int .i64 a, .int .i64 b] 44) = w3 := ⟨_, rfl⟩
      have hb3 : Below w2.heap.size w2 w3 := by rw [← hw3]; exact (Below.refl _ _).alloc (Nat.le_refl _) _
      have hs3 : w2.heap.size < w3.heap.size := by rw [← hw3]; simp
      have s0 : w3.cell? ⟨w2.heap.size, 0, none⟩ = some (.int .i64 a) := by rw [← hw3]; simp [go_sem]
      have s1 : w3.cell? ⟨w2.heap.size, 1, none⟩ = some (.int .i64 b) := by rw [← hw3]; simp [go_sem]
      have s2 : w3.frozen? ⟨w2.heap.size, 0, none⟩ = false := by rw [← hw3]; simp [go_sem]
      have s3 : w3.frozen? ⟨w2.heap.size, 1, none⟩ = false := by rw [← hw3]; simp [go_sem]
      have r0 := (hb3.cell (p := ⟨w.heap.size, 0, none⟩) (by show w.heap.size < w2.heap.size; omega)).trans q0
      have r1 := (hb3.cell (p := ⟨w.heap.size, 1, none⟩) (by show w.heap.size < w2.heap.size; omega)).trans q1
      have own3 := own2.keep hb3
      have hBB3 := hBB2.trans (hb3.mono (by omega))
      have hcall3 := hcall _ _ w3 (hown2.ints.below hb3) (hL.below (hB2.trans (hb3.mono (by omega)))) (by omega) Hbv.out
      rw [HX.out] at hcall3
      have Hcall := Lib.hid hcall3
      obtain ⟨S, hS⟩ : ∃ S, w2.heap.size = S := ⟨_, rfl⟩
      rw [hw3]
      rw [hS] at s0 s1 s2 s3 hs3 Hgl ⊢
      have hSb : w.heap.size + 1 ≤ S := by omega
      clear hw3 hcall hcall3 q0 q1 cA cB own2 hb3 hown2 hb2
      have ha1 : 0 ≤ a * ov ∧ a * ov ≤ 60 * 3600 := ⟨Int.mul_nonneg hbab.1 hpz, Int.mul_le_mul (by omega) hovb hpz (by omega)⟩
      have ha2 : 1 ≤ b * p1 ∧ b * p1 ≤ 60 * 3600 := ⟨Fp.mul_pos _ _ hbab.2.2.1 hp1, Int.mul_le_mul (by omega) (by omega) (by omega) (by omega)⟩
      by_cases hXw : X = who
      · have d0 : (X == who) = true := by rw [beq_iff_eq]; exact hXw
        obtain ⟨y1, y2, hy⟩ : ∃ y1 y2, Bp.fr (d * N) (u.getD k 0 * over) = (y1, y2) := ⟨_, _, rfl⟩
        have hsn := weigh_snoc (ps := ps) (u := u) (lf := lf) (who := who) (over := over) (N := N) (D := d * N) (k := k) (if_pos (HX'.out.trans hXw)) hy
        have Hsn := Lib.hid hsn
        have hYY := Hw.out
        rw [hy] at hYY
        have HY1 : Hid (Fp.rn (a * ov) (b * p1) = y1) := congrArg Prod.fst hYY
        have HY2 : Hid (Fp.rd (a * ov) (b * p1) = y2) := congrArg Prod.snd hYY
        clear hsn hXw hy hYY
        go_wp2_with (go_at_call 76; refine Hcall.out.mono ?_; rintro e w' ⟨rfl, rfl⟩)
        refine (l5Of_any (a * ov) (b * p1) w3 (by omega) (by omega) (by omega) (by omega)).mono ?_
        rintro e w4 ⟨rfl, hb4⟩
        rw [HY1.out, HY2.out]
        have t0 := (hb4.cell (p := ⟨S, 0, none⟩) hs3).trans s0
        have t1 := (hb4.cell (p := ⟨S, 1, none⟩) hs3).trans s1
        have t2 := (hb4.frozen (p := ⟨S, 0, none⟩) hs3).trans s2
        have t3 := (hb4.frozen (p := ⟨S, 1, none⟩) hs3).trans s3
        have own4 := own3.keep hb4
        have hs4 := hb4.size
        have hBB4 := hBB3.trans (hb4.mono (by omega))
        have hgS : ¬ g = S := by
          have := (own3.row.lt g rfl).2
          intro e
          have h9 := Hgl.out
          omega
        go_upto_region 10 with (fail)
        obtain ⟨wX, hwX⟩ : ∃ wX, (w4.setCell ⟨S, 0, none⟩ (.int .i64 y1)).setCell ⟨S, 1, none⟩ (.int .i64 y2) = wX := ⟨_, rfl⟩
        have hgX : w4.grownBy wX (some S) := by rw [← hwX]; refine only_setCell ?_ (.inl rfl) _; refine only_setCell ?_ (.inl rfl) _; exact World.grownBy.refl _ _
        have u0 : wX.cell? ⟨S, 0, none⟩ = some (.int .i64 y1) := by rw [← hwX]; exact (World.cell?_setCell_other _ _ _ _ (by simp)).trans (World.cell?_setCell_same _ _ _ t0)
        have u1 : wX.cell? ⟨S, 1, none⟩ = some (.int .i64 y2) := by rw [← hwX]; exact World.cell?_setCell_same _ _ _ ((World.cell?_setCell_other _ _ _ _ (by simp)).trans t1)
        have ownX : OwnF wX (w.heap.size + 1) (.slice (some ⟨g, 0, none⟩) k cc) k (Bp.frs (d * N) (Bp.weighTo ps u lf who over N k)) := own4.row.kept hgX (.inr (fun e => hgS (Option.some.inj e)))
        have hBX : Below (w.heap.size + 1) w1 wX := hBB4.trans (below_only hgX hSb (by omega))
        have hsX := hgX.size
        try rw [hwX]
        clear hwX hgX own4 own3 t0 t1 t2 t3 s0 s1 s2 s3 hBB3 hBB4 hb4
        go_wp2_with (at_builtin; refine wpList_append_own _ rfl (.tmp 61) (.tmp 63) 45 rfl (w.heap.size + 1) 44 i0 _ 2 16 Try.underlying45 hi0 hz0 hz1 hz2 rfl (by decide) (.slice (some ⟨g, 0, none⟩) k cc) k _ rfl (ownX.row.alloc _) ⟨wX.heap.size, 0, none⟩ 1 1 [.int .i64 y1, .int .i64 y2] rfl rfl (pair_one _ _ _ _) (by simp [Value.oneCell']) (by unfold maxLen; omega) (by omega) (by simp; omega) ?_; intro v1 w7 hown7 hg7 hv7; obtain ⟨g7, c7, rfl, hkc7, hgb7⟩ := own_form' hown7 (fun e => by have := hv7.1 e; cases this.1); clear hv7)
        go_roundw
        case rel => exact ⟨k + 1, g7, c7, by omega, by go_num, rfl, hkc7, by unfold OwnF; rw [Hsn.out]; exact hown7, (hBX.alloc (by omega) _).grown hg7 (by simp; omega) (fun g hg => (ownX.row.lt g hg).1)⟩
        case measure => simp [intOf]; omega
      · have d0 : (X == who) = false := by rw [beq_eq_false_iff_ne]; exact hXw
        have hsn := weigh_snoc (ps := ps) (u := u) (lf := lf) (who := who) (over := over) (N := N) (D := d * N) (k := k) (if_neg (fun e => hXw (HX'.out.symm.trans e))) ((Bp.fr_more hd hN).trans Hab.out)
        have Hsn := Lib.hid hsn
        have ownX := own3
        have hBX := hBB3
        obtain ⟨wX, rfl⟩ : ∃ wX : World, wX = w3 := ⟨_, rfl⟩
        clear hsn hXw own3 hBB3
        go_upto_region 10 with (go_at_call 76; refine Hcall.out.mono ?_; rintro e w' ⟨rfl, rfl⟩)
        go_wp2_with (at_builtin; refine wpList_append_own _ rfl (.tmp 61) (.tmp 63) 45 rfl (w.heap.size + 1) 44 i0 _ 2 16 Try.underlying45 hi0 hz0 hz1 hz2 rfl (by decide) (.slice (some ⟨g, 0, none⟩) k cc) k _ rfl (ownX.row.alloc _) ⟨wX.heap.size, 0, none⟩ 1 1 [.int .i64 a, .int .i64 b] rfl rfl (pair_one _ _ _ _) (by simp [Value.oneCell']) (by unfold maxLen; omega) (by omega) (by simp; omega) ?_; intro v1 w7 hown7 hg7 hv7; obtain ⟨g7, c7, rfl, hkc7, hgb7⟩ := own_form' hown7 (fun e => by have := hv7.1 e; cases this.1); clear hv7)
        go_roundw
        case rel => exact ⟨k + 1, g7, c7, by omega, by go_num, rfl, hkc7, by unfold OwnF; rw [Hsn.out]; exact hown7, (hBX.alloc (by omega) _).grown hg7 (by simp; omega) (fun g hg => (ownX.row.lt g hg).1)⟩
        case measure => simp [intOf]; omega
    · have hkn : k = n := by omega
      subst hkn
      go_wp2_with fail
      go_ret
      have hg0 := (hown.row.lt g rfl).1
      refine ⟨g, cc, rfl, by omega, hkc, ?_, hb⟩
      unfold Bp.weigh
      rw [hl.out]
      exact hown.base (by omega)
end Go.Proofs.Ytiglkajafdecgaa
