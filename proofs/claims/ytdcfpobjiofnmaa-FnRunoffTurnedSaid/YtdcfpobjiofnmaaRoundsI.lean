/-
  The walk of the program's RunoffRounds.
-/
import Derived.Test.YtdcfpobjiofnmaaRoundsMem
import Derived.Test.YtdcfpobjiofnmaaRunoffSmall
import Derived.Test.YtdcfpobjiofnmaaPlural
namespace Go.Proofs.Ytdcfpobjiofnmaa
set_option linter.unusedVariables false
open Go.RowKit

/-- the rounds that have been, and those to come -/
structure Went (ps : List Bp.Pile) (lots : List Int) (m k : Nat) (lf : List Bool) (rs : List Bp.Rnd) : Prop where
  all : Bp.rounds ps lots = rs ++ Bp.rnds ps lots (m - k) lf
  there : Bp.there lf = (m : Int) - k
  len : lf.length = m
theorem Went.start (ps : List Bp.Pile) (lots : List Int) (m : Nat) (hm : lots.length = m) : Went ps lots m 0 (List.replicate m false) [] := by
  subst hm
  exact ⟨by rw [Nat.sub_zero]; rfl, by rw [Bp.there_fresh]; simp, by simp⟩
theorem Went.last {ps : List Bp.Pile} {lots : List Int} {m k : Nat} {lf : List Bool} {rs : List Bp.Rnd} (h : Went ps lots m k lf rs) (hk : k < m) (hd : Bp.rdone (Bp.firsts ps lf) lf = true) : Bp.rounds ps lots = rs ++ [(Bp.firsts ps lf, -1)] := by
  obtain ⟨f, hf⟩ : ∃ f, m - k = f + 1 := ⟨m - k - 1, by omega⟩
  rw [h.all, hf, Bp.rnds, if_pos hd]
theorem Went.next {ps : List Bp.Pile} {lots : List Int} {m k : Nat} {lf : List Bool} {rs : List Bp.Rnd} (h : Went ps lots m k lf rs) (hk : k < m) (hl : Bp.lval lots = true) (hm : lots.length = m) (hd : Bp.rdone (Bp.firsts ps lf) lf = false) :
    k + 1 < m ∧ Bp.there lf ≠ 0 ∧ Went ps lots m (k + 1) (lf.set (Bp.least (Bp.firsts ps lf) lf lots).toNat true) (rs ++ [(Bp.firsts ps lf, Bp.least (Bp.firsts ps lf) lf lots)]) := by
  have ht := h.there
  have hk1 : k + 1 < m := by
    rcases Nat.lt_or_ge (k + 1) m with h1 | h1
    · exact h1
    · rw [Bp.rdone_one _ _ (by omega)] at hd; cases hd
  have ht0 : Bp.there lf ≠ 0 := by omega
  have hr := Bp.least_range (counts := Bp.firsts ps lf) hl (by rw [h.len, hm]) ht0
  refine ⟨hk1, ht0, ?_, ?_, by rw [List.length_set]; exact h.len⟩
  · obtain ⟨f, hf⟩ : ∃ f, m - k = f + 1 := ⟨m - k - 1, by omega⟩
    rw [h.all, hf, Bp.rnds, if_neg (by rw [hd]; simp), show m - (k + 1) = f by omega, List.append_assoc]
    rfl
  · rw [Bp.there_set lf _ hr.2.2 (by rw [h.len]; omega), ht]
    omega

theorem Bp.leastTo_range (counts : List Int) (left : List Bool) {lots : List Int} (hl : Bp.lval lots = true) (k : Nat) (hk : k ≤ lots.length) : Bp.leastTo counts left lots k = -1 ∨ ∃ p : Nat, p < lots.length ∧ Bp.leastTo counts left lots k = p := by
  rcases Bp.leastTo_is counts left lots (fun j hj => (Bp.lval_at hl j hj).1) k hk with ⟨e, _⟩ | ⟨p, hp, e, _⟩
  · exact .inl e
  · have h1 := Bp.lval_at hl p (by omega)
    obtain ⟨q, hq⟩ := Int.eq_ofNat_of_zero_le h1.1
    rw [hq] at e h1
    exact .inr ⟨q, by omega, e⟩
theorem two_new (w : World) (x y : Value) (t : TypeId) : ∀ j u, [x, y][j]? = some u → (w.alloc (.cells #[x, y] t)).cell? ((⟨w.heap.size, 0, none⟩ : Addr).add j) = some u := by
  intro j u hj
  match j, hj with
  | 0, hj =>
    simp at hj
    subst hj
    simp [Addr.add]
  | 1, hj =>
    simp at hj
    subst hj
    simp [Addr.add]
set_option maxRecDepth 100000 in
set_option maxHeartbeats 8000000 in
theorem iRunoffRounds_any (A : Option Addr) (n c : Nat) (A' : Option Addr) (m c' : Nat) (ps : List Bp.Pile) (lots : List Int) (w : World) (h : Piles w w.heap.size A n ps) (hn : n ≤ 1048576) (hnc : n ≤ c) (h' : Ints w w.heap.size A' m lots) (hm : m ≤ 1048576) (hmc : m ≤ c') :
    Calls Try.prog 38 #[.slice A n c, .slice A' m c'] w (RoundsRes (Bp.ok ps lots) (Bp.rounds ps lots) w) := by
  have hl := h'.1
  cases hok : Bp.ok ps lots
  · rcases Bp.ok_no hok with hlv | ⟨hlv, hf⟩
    · have Hlv := Lib.hid hlv
      clear hok hl
      go_enter Try.func38, Try.ntmps38
      go_wp2_with (go_at_call 47; refine (iLotsValid_any A' m c' lots _ _ h' (by omega) hmc).mono ?_; rintro e w' ⟨rfl, rfl⟩)
      go_ret2
      exact ⟨none, 0, 0, rfl, Nat.le_refl _, by omega, by rw [rres_no rfl]; exact OwnRd.nil _ _ _, Below.refl _ _⟩
    · rw [hl] at hf
      have Hlv := Lib.hid hlv
      have Hf := Lib.hid hf
      clear hok hl
      go_enter Try.func38, Try.ntmps38
      go_wp2_with (first | (go_at_call 47; refine (iLotsValid_any A' m c' lots _ _ h' (by omega) hmc).mono ?_; rintro e w' ⟨rfl, rfl⟩) | (go_at_call 51; refine (pilesFit_any A n c m ps _ h hn hnc).mono ?_; rintro e w1 ⟨rfl, hb1⟩))
      go_ret2
      exact ⟨none, 0, 0, rfl, Nat.le_refl _, by omega, by rw [rres_no rfl]; exact OwnRd.nil _ _ _, hb1⟩
  · have hlv := Bp.ok_lval hok
    have hf := Bp.ok_fits hok
    have hm5 := Bp.lval_n hlv
    rw [hl] at hf hm5
    obtain ⟨m1, m5⟩ := hm5
    have Hl := Lib.hid hl
    have Hf := Lib.hid hf
    have Hlv := Lib.hid hlv
    clear hok hl
    obtain ⟨i0, hi0, hz0, hz1, hz2⟩ := info_parts bool_info
    obtain ⟨j0, hj0, hy0, hy1, hy2⟩ := info_parts round_info
    go_enter Try.func38, Try.ntmps38
    go_wp2_with (first | (go_at_call 47; refine (iLotsValid_any A' m c' lots _ _ h' (by omega) hmc).mono ?_; rintro e w' ⟨rfl, rfl⟩) | (go_at_call 51; refine (pilesFit_any A n c m ps _ h hn hnc).mono ?_; rintro e w1 ⟨rfl, hb1⟩) | (at_make; refine wpList_make_full _ rfl (.tmp 23) (.tmp 23) 61 rfl _ 4 i0 _ 1 Try.underlying61 hi0 hz0 hz1 .i64 .i64 m m m rfl rfl rfl rfl (by rw [hz2]; omega) (by unfold maxLen; omega) (Nat.le_refl _) ?_; intro w2 hown2 hg2))
    have hs1 := hb1.size
    have own2 := madeB_own hown2
    have hb2 : Below w1.heap.size w1 w2 := (Below.refl _ _).grown hg2 (Nat.le_refl _) (by simp)
    have hs2 := hb2.size
    have hB2 := hb1.trans (hb2.mono hs1)
    have hL2 := (own2.row.lt w1.heap.size rfl).2
    obtain ⟨L, hL⟩ : ∃ L, w1.heap.size = L := ⟨_, rfl⟩
    rw [hL] at own2 hL2 hs1 ⊢
    have HL := Lib.hid hL
    clear hown2 hg2 hlv hf hb1 hb2 hs2 hL
    go_loopw [7] (fun v wr => ∃ (k : Nat) (A3 : Option Addr) (c3 : Nat) (lf : List Bool) (rs : List Bp.Rnd), v = .slice A3 k c3 ∧ k ≤ c3 ∧ k < m ∧ Hid (Went ps lots m k lf rs) ∧ OwnB wr w.heap.size (.slice (some ⟨L, 0, none⟩) m m) m lf ∧ OwnRd wr w.heap.size [L] (.slice A3 k c3) k rs ∧ L < wr.heap.size ∧ Below w.heap.size w wr) (fun v _ => m - sliceLen v)
    case atStart => exact ⟨0, none, 0, _, [], rfl, Nat.le_refl _, by omega, Went.start ps lots m Hl.out, own2.base hs1, OwnRd.nil _ _ _, hL2, hB2⟩
    case round =>
      obtain ⟨k, A3, c3, lf, rs, rfl, hkc3, hkm, hW, ownL, ownR, hLr, hb⟩ := hrel
      obtain ⟨wo, rfl⟩ : ∃ wo : World, wo = wr := ⟨_, rfl⟩
      clear hB2 hL2 own2
      have hz := hb.size
      have hlfl := Lib.hid hW.out.len
      go_wp2_with fail
      refine (iFirsts_any A _ n c m m ps lf _ ((h.below hb).mono hz) ownL.bools hn Hf.out).mono ?_
      rintro e w3 ⟨gc, rfl, hgc, ownC, hb3⟩
      have hs3 := hb3.size
      have hB3 := hb.trans (hb3.mono hz)
      have ownL3 := ownL.keep hb3
      have ownR3 := (ownR.avoid (y := gc) hgc).keep hb3
      have hgcl := (ownC.row.lt gc rfl).2
      clear ownL ownR
      have hbd : Bp.Bd (Bp.firsts ps lf) 1188 := Bp.firsts_bd (Bp.fits_val Hf.out)
      have Hbd := Lib.hid hbd
      clear hbd
      have ownC3 : Own w3 w.heap.size (.slice (some ⟨gc, 0, none⟩) m m) m (Bp.firsts ps lf) := own_base ownC (by omega)
      obtain ⟨B, hB⟩ : ∃ B, w3.heap.size = B := ⟨_, rfl⟩
      have ownR3' := ownR3.avoid (y := B) (by omega)
      go_wp2_with (fail)
      obtain ⟨w4, hw4⟩ : ∃ w4 : World, w3.alloc (.cells #[.slice (some ⟨gc, 0, none⟩) m m, .int .i64 (-1)] 59) = w4 := ⟨_, rfl⟩
      have c40 : w4.cell? ⟨B, 0, none⟩ = some (.slice (some ⟨gc, 0, none⟩) m m) := by subst hw4; subst hB; simp [go_sem]
      have c41 : w4.cell? ⟨B, 1, none⟩ = some (.int .i64 (-1)) := by subst hw4; subst hB; simp [go_sem]
      have f41 : w4.frozen? ⟨B, 1, none⟩ = false := by subst hw4; subst hB; simp [go_sem]
      have hb4 : Below w3.heap.size w3 w4 := by subst hw4; exact (Below.refl _ _).alloc (Nat.le_refl _) _
      have hs4 : w4.heap.size = B + 1 := by subst hw4; subst hB; simp
      have ownC4 : Own w4 w.heap.size (.slice (some ⟨gc, 0, none⟩) m m) m (Bp.firsts ps lf) := own_keep ownC3 hb4
      have ownL4 := ownL3.keep hb4
      have ownR4 := ownR3'.keep hb4
      have hB4 := hB3.trans (hb4.mono (by omega))
      rw [hw4]
      clear hb4 hb3 hw4 ownR3 ownR3' ownL3 ownC3 ownC hB3 hb
      refine (runoffDone_any _ _ m m m m (Bp.firsts ps lf) lf _ _ _ ownC4.ints ownL4.bools rfl (by omega) (by omega) 1188 Hbd.out (by omega)).mono ?_
      rintro e w5 ⟨rfl, hd5⟩
      have hb5 := hd5.below w4.heap.size
      have hs5 := hb5.size
      have hBg : B < w5.heap.size := by omega
      have hgg : gc < B := by omega
      have hLL : L < B := by omega
      have c50 : w5.cell? ⟨B, 0, none⟩ = some (.slice (some ⟨gc, 0, none⟩) m m) := (hb5.cell (p := ⟨B, 0, none⟩) (by rw [hs4]; exact Nat.lt_succ_self _)).trans c40
      have c51 : w5.cell? ⟨B, 1, none⟩ = some (.int .i64 (-1)) := (hb5.cell (p := ⟨B, 1, none⟩) (by rw [hs4]; exact Nat.lt_succ_self _)).trans c41
      have f51 : w5.frozen? ⟨B, 1, none⟩ = false := (hb5.frozen (p := ⟨B, 1, none⟩) (by rw [hs4]; exact Nat.lt_succ_self _)).trans f41
      have ownC5 : Own w5 w.heap.size (.slice (some ⟨gc, 0, none⟩) m m) m (Bp.firsts ps lf) := own_keep ownC4 hb5
      have ownL5 := ownL4.keep hb5
      have ownR5 := ownR4.keep hb5
      have hB5 := hB4.trans (hb5.mono (by omega))
      clear hb5 ownC4 ownL4 ownR4 hB4 c40 c41 f41 hd5
      cases hdn : Bp.rdone (Bp.firsts ps lf) lf
      · obtain ⟨hk1, ht0, hN⟩ := hW.out.next hkm Hlv.out Hl.out hdn
        have hr := Bp.least_range (counts := Bp.firsts ps lf) Hlv.out (by rw [hlfl.out, Hl.out]) ht0
        have Hr := Lib.hid hr
        have HN := Lib.hid hN
        have Ht0 := Lib.hid ht0
        clear hN hr hW ht0
        obtain ⟨wx, rfl⟩ : ∃ wx : World, wx = w5 := ⟨_, rfl⟩
        go_wp2_with fail
        go_loopw [36] (fun i wi => ∃ j : Nat, j ≤ m ∧ i = .int .i64 j ∧ wi.cell? ⟨B, 0, none⟩ = some (.slice (some ⟨gc, 0, none⟩) m m) ∧ wi.cell? ⟨B, 1, none⟩ = some (.int .i64 (Bp.leastTo (Bp.firsts ps lf) lf lots j)) ∧ wi.frozen? ⟨B, 1, none⟩ = false ∧ wx.grownBy wi (some B)) (fun i _ => m - (intOf i).toNat)
        case atStart => exact ⟨0, Nat.zero_le _, rfl, c50, c51, f51, World.grownBy.refl _ _⟩
        case round =>
          obtain ⟨j, hj, rfl, cj0, cj, fj, hg⟩ := hrel
          clear c50 c51 f51
          have hbi : Below w.heap.size w wr := hB5.trans (below_only hg (by omega) (by omega))
          have hszi := hg.size
          have ne1 : (some gc : Option Nat) ≠ some B := by
            intro e; injection e with e; omega
          have ne2 : (some L : Option Nat) ≠ some B := by
            intro e; injection e with e; omega
          have ownCi : Own wr w.heap.size (.slice (some ⟨gc, 0, none⟩) m m) m (Bp.firsts ps lf) := ownC5.row.kept hg (.inr ne1)
          have ownLi : OwnB wr w.heap.size (.slice (some ⟨L, 0, none⟩) m m) m lf := ownL5.row.kept hg (.inr ne2)
          by_cases hlt : j < m
          · obtain ⟨g2, o2, z2, rfl, _, hc2, hz2'⟩ := (h'.below hbi).at hlt
            have hzr := Bp.lval_at Hlv.out j (by rw [Hl.out]; exact hlt)
            rw [hz2'.out, Hl.out] at hzr
            obtain ⟨zn, rfl⟩ := Int.eq_ofNat_of_zero_le hzr.1
            have hznn : zn < m := by omega
            obtain ⟨g1, o1, b, hA1, _, hc1, hb1⟩ := ownLi.bools.at hznn
            obtain ⟨g3, o3, x, hA3, _, hc3, hx⟩ := ownCi.ints.at hznn
            injection hA1 with hA1; injection hA1 with e1 e2
            subst e1; subst e2
            injection hA3 with hA3; injection hA3 with e1 e2
            subst e1; subst e2
            have i1 : (0 : Int) ≤ (j : Int) := by omega
            have i2 : (j : Int) < (m : Int) := by omega
            have i3 : (0 : Int) ≤ (zn : Int) := by omega
            have i4 : (zn : Int) < (m : Int) := by omega
            have hcell : ∀ N o, ((wr.drewN N).setCell ⟨B, 1, none⟩ (.int .i64 o)).cell? ⟨B, 0, none⟩ = some (.slice (some ⟨gc, 0, none⟩) m m) := fun N o => (World.cell?_setCell_other _ _ _ _ (by simp)).trans cj0
            have hfrz : ∀ N o, ((wr.drewN N).setCell ⟨B, 1, none⟩ (.int .i64 o)).frozen? ⟨B, 1, none⟩ = false := fun N o => by rw [World.frozen?_setCell]; exact fj
            have hgset : ∀ N o, wx.grownBy ((wr.drewN N).setCell ⟨B, 1, none⟩ (.int .i64 o)) (some B) := fun N o => only_setCell (only_drewN hg N) (.inl rfl) _
            rw [Nat.zero_add] at hc1 hc3
            have Hb1 := hb1
            have Hx := hx
            clear hb1 hx
            have hnx : Bp.leastTo (Bp.firsts ps lf) lf lots (j + 1) = if b then Bp.leastTo (Bp.firsts ps lf) lf lots j else if Bp.leastTo (Bp.firsts ps lf) lf lots j < 0 ∨ x ≤ (Bp.firsts ps lf).getD (Bp.leastTo (Bp.firsts ps lf) lf lots j).toNat 0 then (zn : Int) else Bp.leastTo (Bp.firsts ps lf) lf lots j := by
              rw [Bp.leastTo, hz2'.out, Int.toNat_natCast, Hb1.out, Hx.out]
            have Hnx := Lib.hid hnx
            clear hnx
            cases b
            · rcases Bp.leastTo_range (Bp.firsts ps lf) lf Hlv.out j (by rw [Hl.out]; omega) with e | ⟨p, hp, e⟩
              · rw [e] at cj Hnx
                have d0 : decide ((-1 : Int) < 0) = true := by decide
                go_wp2_with fail
                go_quiet (fail)
                go_wp2_with fail
                go_roundw
                case rel =>
                  have hcN : (wr.drewN nq).cell? ⟨B, 1, none⟩ = some (.int .i64 (-1)) := cj
                  have hfin : ((wr.drewN nq).setCell ⟨B, 1, none⟩ (.int .i64 (zn : Int))).cell? ⟨B, 1, none⟩ = some (.int .i64 (Bp.leastTo (Bp.firsts ps lf) lf lots (j + 1))) := (by rw [Hnx.out]; exact World.cell?_setCell_same _ _ _ hcN)
                  refine ⟨j + 1, by omega, ?_, hcell _ _, hfin, hfrz _ _, hgset _ _⟩
                  go_num
                case measure => simp [intOf]; omega
              · rw [Hl.out] at hp
                obtain ⟨g4, o4, y, hA4, _, hc4, hy⟩ := ownCi.ints.at hp
                injection hA4 with hA4; injection hA4 with e1 e2
                subst e1; subst e2
                rw [Nat.zero_add] at hc4
                have i5 : (0 : Int) ≤ (p : Int) := by omega
                have i6 : (p : Int) < (m : Int) := by omega
                have i7 : ¬ (p : Int) < 0 := by omega
                have d0 : decide ((p : Int) < 0) = false := decide_eq_false i7
                rw [e] at cj Hnx
                rw [Int.toNat_natCast, hy.out] at Hnx
                by_cases hcmp : x ≤ y
                · have Hcmp := Lib.hid hcmp
                  go_wp2_with fail
                  go_quiet (fail)
                  go_wp2_with fail
                  go_roundw
                  case rel =>
                    have hcN : (wr.drewN nq).cell? ⟨B, 1, none⟩ = some (.int .i64 (p : Int)) := cj
                    have hfin : ((wr.drewN nq).setCell ⟨B, 1, none⟩ (.int .i64 (zn : Int))).cell? ⟨B, 1, none⟩ = some (.int .i64 (Bp.leastTo (Bp.firsts ps lf) lf lots (j + 1))) := (by rw [Hnx.out, if_neg (by simp), if_pos (.inr Hcmp.out)]; exact World.cell?_setCell_same _ _ _ hcN)
                    refine ⟨j + 1, by omega, ?_, hcell _ _, hfin, hfrz _ _, hgset _ _⟩
                    go_num
                  case measure => simp [intOf]; omega
                · have Hcmp := Lib.hid hcmp
                  have d1 : decide (x ≤ y) = false := decide_eq_false hcmp
                  go_wp2_with fail
                  go_quiet (fail)
                  go_wp2_with fail
                  go_roundw
                  case rel => exact ⟨j + 1, by omega, by go_num, cj0, by rw [Hnx.out, if_neg (by simp), if_neg (by have := Hcmp.out; omega)]; exact cj, fj, only_drewN hg _⟩
                  case measure => simp [intOf]; omega
            · go_wp2_with fail
              go_quiet (fail)
              go_wp2_with fail
              go_roundw
              case rel => exact ⟨j + 1, by omega, by go_num, cj0, by rw [Hnx.out, if_pos (by simp)]; exact cj, fj, only_drewN hg _⟩
              case measure => simp [intOf]; omega
          · have hjm : j = m := by omega
            rw [hjm] at cj
            have hle : Bp.leastTo (Bp.firsts ps lf) lf lots m = Bp.least (Bp.firsts ps lf) lf lots := by rw [← Hl.out]; rfl
            obtain ⟨p, hp⟩ := Int.eq_ofNat_of_zero_le Hr.out.1
            have hpm : p < m := by
              have h1 := Hr.out.2.1
              rw [hp, Hl.out] at h1
              omega
            rw [hle, hp] at cj
            obtain ⟨vs, hR⟩ := ownR5.only hg (by simp)
            have hrow := hR.2.1
            have HR := Lib.hid hR
            have Hp := Lib.hid hp
            have hBg' : B < wr.heap.size := by omega
            have hgcr : gc < wr.heap.size := by omega
            have hLr' : L < wr.heap.size := by omega
            have i5 : (0 : Int) ≤ (p : Int) := by omega
            have i6 : (p : Int) < (m : Int) := by omega
            have i7 : ¬ (p : Int) < 0 := by omega
            have hne : ((Value.slice A3 k c3).ownBlock : Option Nat) ≠ some L := (HR.out.2.2.2 L (by simp)).1
            have hal : ∀ o : Obj, Below wr.heap.size wr (wr.alloc o) := fun o => (Below.refl wr.heap.size wr).alloc (Nat.le_refl _) o
            clear hR hp hle ownR5 ownC5 ownL5 Hr
            go_wp2_with (at_builtin; refine wpList_append_own_at _ rfl (.tmp 65) (.tmp 67) 54 rfl w.heap.size 59 j0 _ 2 32 Try.underlying54 hj0 hy0 hy1 hy2 rfl (by decide) (.slice A3 k c3) k _ rfl (hrow.alloc _) ⟨wr.heap.size, 0, none⟩ 1 1 [.slice (some ⟨gc, 0, none⟩) m m, .int .i64 (p : Int)] rfl rfl (two_new _ _ _ _) (by simp [Value.oneCell']) (by unfold maxLen; omega) (by omega) (by simp; omega) ?_; intro v1 w6 hown6 hg6 _ hat6; obtain ⟨A4, c4, rfl, hkc1⟩ := own_slice hown6; have c61 := hg6.cell (a := ⟨B, 1, none⟩) (((hal _).cell (p := ⟨B, 1, none⟩) hBg').trans cj) (HR.out.2.2.2 B (List.mem_cons_self ..)).1.symm; have ownL6 : OwnB w6 w.heap.size (.slice (some ⟨L, 0, none⟩) m m) m lf := (ownLi.keep (hal _)).row.kept hg6 (.inr hne.symm); obtain ⟨cL, fL⟩ := ownB_cell ownL6 p hpm)
            go_roundw
            case rel =>
              have hz6 := hg6.size
              have hz6' : wr.heap.size ≤ w6.heap.size := Nat.le_trans (hal _).size hz6
              have hset := ownB_set ownL6 p true
              have hR' : OwnRd w6 w.heap.size [L] (.slice A4 (k + 1) c4) (k + 1) (rs ++ [(Bp.firsts ps lf, (p : Int))]) := by
                refine ((HR.out.less (Y := [gc, L]) (by simp)).keep (hal _)).snoc (m := m) ownCi.len (ownCi.keep (hal _)) (fun y hy => ?_) hg6 hat6 hown6
                rw [List.mem_singleton.1 hy]
                exact ⟨by have := (hal (.cells #[.slice (some ⟨gc, 0, none⟩) m m, .int .i64 (p : Int)] 59)).size; omega, by omega⟩
              have hN := HN.out
              rw [Hp.out, Int.toNat_natCast] at hN
              have hb6 : Below w.heap.size w w6 := (hbi.alloc (by omega) _).grown hg6 (by simp; omega) (fun g hg => (hrow.lt g hg).1)
              exact ⟨k + 1, A4, c4, _, _, rfl, hkc1, by omega, hN, hset.1, hR'.only hset.2 (by simp), by simp; omega, hb6.trans (below_only hset.2 (by omega) (by omega))⟩
            case measure => simp [sliceLen]; omega
      · have Hdn := Lib.hid hdn
        obtain ⟨vs, hR⟩ := ownR5
        have hrow := hR.2.1
        have HR := Lib.hid hR
        clear hR hdn
        go_wp2_with (at_builtin; refine wpList_append_own_at _ rfl (.tmp 65) (.tmp 67) 54 rfl w.heap.size 59 j0 _ 2 32 Try.underlying54 hj0 hy0 hy1 hy2 rfl (by decide) (.slice A3 k c3) k _ rfl (hrow.alloc _) ⟨w5.heap.size, 0, none⟩ 1 1 [.slice (some ⟨gc, 0, none⟩) m m, .int .i64 (-1)] rfl rfl (two_new _ _ _ _) (by simp [Value.oneCell']) (by unfold maxLen; omega) (by omega) (by simp; omega) ?_; intro v1 w6 hown6 hg6 _ hat6; obtain ⟨A4, c4, rfl, hkc1⟩ := own_slice hown6; have c61 := hg6.cell (a := ⟨B, 1, none⟩) ((((Below.refl w5.heap.size w5).alloc (Nat.le_refl _) _).cell (p := ⟨B, 1, none⟩) hBg).trans c51) (HR.out.2.2.2 B (List.mem_cons_self ..)).1.symm)
        go_ret2
        have hR' : OwnRd w6 w.heap.size [] (.slice A4 (k + 1) c4) (k + 1) (rs ++ [(Bp.firsts ps lf, -1)]) := by
          refine ((HR.out.less (Y := [gc]) (by simp)).keep ((Below.refl w5.heap.size w5).alloc (Nat.le_refl _) _)).snoc (m := m) ownC5.len (ownC5.keep ((Below.refl w5.heap.size w5).alloc (Nat.le_refl _) _)) (fun y hy => by cases hy) hg6 hat6 hown6
        rw [← hW.out.last hkm Hdn.out] at hR'
        refine ⟨A4, k + 1, c4, rfl, hkc1, by omega, ?_, ?_⟩
        · rw [rres_yes rfl]; exact hR'
        · exact (hB5.alloc (by omega) _).grown hg6 (by simp; omega) (fun g hg => (hrow.lt g hg).1)
end Go.Proofs.Ytdcfpobjiofnmaa
