/-
  The walks of the program's counts of pairs: BallotPrefers, pairCounts, PairCounts.
-/
import Derived.Test.YtdcfpobjiofnmaaTables
import Derived.Test.YtdcfpobjiofnmaaLots
namespace Go.Proofs.Ytdcfpobjiofnmaa
set_option linter.unusedVariables false
open Go.RowKit

set_option maxRecDepth 100000 in
set_option maxHeartbeats 400000 in
theorem iBallotPrefers_val (A : Option Addr) (n c : Nat) (x y : Int) (b : List Int) (v : Bool) (hv : Bp.prefers b x y = v) (B : Nat) (w : World) (h : Ints w B A n b) (hn : n ≤ 1048576) (hnc : n ≤ c) (hb : Bp.bval b 5 = true) :
    Calls Try.prog 82 #[.slice A n c, .int .i64 x, .int .i64 y] w fun e w' => e = .returned (.bool v) ∧ w = w' := by
  have hcall := iBallotValid_any A n c 5 b B w h (by omega) hnc
  rw [hb] at hcall
  have Hcall := Lib.hid hcall
  have Hv := Lib.hid hv
  clear hcall hb hv
  by_cases hxy : x = y
  · have d1 : (x == y) = true := by simpa using hxy
    have Hs := Lib.hid (Bp.prefers_self b hxy)
    clear hxy
    go_enter Try.func82, Try.ntmps82
    go_wp2_with (go_at_call 54; refine Hcall.out.mono ?_; rintro e w' ⟨rfl, rfl⟩)
    go_ret
    exact ⟨ret_bool (by rw [← Hv.out, Hs.out]), rfl⟩
  · have d1 : (x == y) = false := by simpa using hxy
    have Hs := Lib.hid (Bp.prefers_ne b hxy)
    clear hxy
    have hix := index_any A n c x b B w h (by omega)
    have hiy := index_any A n c y b B w h (by omega)
    obtain ⟨i, hi⟩ : ∃ i, Bp.idx b x = i := ⟨_, rfl⟩
    obtain ⟨j, hj⟩ : ∃ j, Bp.idx b y = j := ⟨_, rfl⟩
    rw [hi] at hix
    rw [hj] at hiy
    have He := Lib.hid (show v = (decide (0 ≤ i) && (decide (j < 0) || decide (i < j))) by rw [← Hv.out, Hs.out, hi, hj])
    have Hix := Lib.hid hix
    have Hiy := Lib.hid hiy
    clear hix hiy hi hj
    go_enter Try.func82, Try.ntmps82
    go_wp2_with (first | (go_at_call 54; refine Hcall.out.mono ?_; rintro e w' ⟨rfl, rfl⟩) | (go_at_call 94; (first | (with_reducible refine Hix.out.mono ?_) | (with_reducible refine Hiy.out.mono ?_)); rintro e w' ⟨rfl, rfl⟩))
    all_goals
      go_ret
      exact ⟨ret_bool (by rw [He.out]; first | (simp; omega) | (simp [*]; done) | (simp [*]; omega)), rfl⟩

set_option maxRecDepth 100000 in
set_option maxHeartbeats 4000000 in
theorem iPairs_any (A : Option Addr) (n c m : Nat) (ps : List Bp.Pile) (w : World) (h : Piles w w.heap.size A n ps) (hn : n ≤ 1048576) (hfit : Bp.fits ps m = true) :
    Calls Try.prog 57 #[.slice A n c, .int .i64 m] w (TabbedI m (Bp.pairs ps m) w) := by
  have hl := Lib.hid h.1.1
  have Hfit := Lib.hid hfit
  obtain ⟨m1, m5⟩ := Bp.fits_n hfit
  have hlen := Bp.fits_len hfit
  rw [hl.out] at hlen
  clear hfit
  obtain ⟨i0, hi0, hz0, hz1, hz2⟩ := info_parts int_info
  obtain ⟨j0, hj0, hy0, hy1, hy2⟩ := info_parts row_info
  go_enter Try.func57, Try.ntmps57
  go_wp2_with (at_make; refine wpList_make_full _ rfl (.tmp 10) (.tmp 10) 44 rfl w.heap.size 31 j0 _ 1 Try.underlying44 hj0 hy0 hy1 .i64 .i64 m m m rfl rfl rfl rfl (by rw [hy2]; omega) (by unfold maxLen; omega) (Nat.le_refl _) ?_; intro w1 hown hg)
  have own1 := OwnTo.start hown
  have hb1 : Below w.heap.size w w1 := (Below.refl _ _).grown hg (Nat.le_refl _) (by simp)
  obtain ⟨W, hW⟩ : ∃ W, w.heap.size = W := ⟨_, rfl⟩
  rw [hW] at own1 hb1 h ⊢
  have hpW := h
  clear hown hg hj0 hy0 hy1 hy2
  go_loopw [14] (fun i wr => ∃ x : Nat, x ≤ m ∧ i = .int .i64 x ∧ OwnTo wr W W m (Bp.tabTo m (fun x y => Bp.pref ps x y) x) ∧ Below W w wr) (fun i _ => m - (intOf i).toNat)
  case atStart => exact ⟨0, Nat.zero_le _, rfl, own1, hb1⟩
  case round =>
    obtain ⟨x, hx, rfl, hown, hb⟩ := hrel
    clear own1 hb1
    have hz := hb.size
    obtain ⟨wo, rfl⟩ : ∃ wo : World, wo = wr := ⟨_, rfl⟩
    have hW1 := hown.lt
    obtain ⟨G, hG⟩ : ∃ G, wo.heap.size = G := ⟨_, rfl⟩
    by_cases hlt : x < m
    · have i1 : (0 : Int) ≤ (x : Int) := by omega
      have i2 : (x : Int) < (m : Int) := by omega
      go_wp2_with (at_make; refine wpList_make_full _ rfl (.tmp 19) (.tmp 19) 31 rfl wo.heap.size 3 i0 _ 1 Try.underlying31 hi0 hz0 hz1 .i64 .i64 m m m rfl rfl rfl rfl (by rw [hz2]; omega) (by unfold maxLen; omega) (Nat.le_refl _) ?_; intro w2 hown2 hg2; have hb2 : Below wo.heap.size wo w2 := (Below.refl _ _).grown hg2 (Nat.le_refl _) (by simp); have ownr := made_own hown2; have hto := hown.keep hb2; obtain ⟨⟨u, hcu⟩, hfu⟩ := hto.cell hlt)
      have hGl : wo.heap.size < w2.heap.size := (ownr.row.lt _ rfl).2
      have hst := only_setCell (World.grownBy.refl w2 (some W)) (p := ⟨W, x, none⟩) (.inl rfl) (.slice (some ⟨wo.heap.size, 0, none⟩) m m)
      have ownr3 := ownr.only hst (show W < wo.heap.size by omega)
      have c3 : (w2.setCell ⟨W, x, none⟩ (.slice (some ⟨wo.heap.size, 0, none⟩) m m)).cell? ⟨W, x, none⟩ = some (.slice (some ⟨wo.heap.size, 0, none⟩) m m) := World.cell?_setCell_same _ _ _ hcu
      have hmore := fun w3 zs hm hg3 h5 => OwnTo.more (w3 := w3) (zs := zs) (g1 := wo.heap.size) (c := m) (m := m) hown (by rw [Bp.tabTo_len]; exact hlt) (Nat.le_refl _) hb2 hm hg3 h5
      rw [Bp.tabTo_len] at hmore
      have hB3 : Below W wo (w2.setCell ⟨W, x, none⟩ (.slice (some ⟨wo.heap.size, 0, none⟩) m m)) := (hb2.mono (by omega)).trans (below_only hst (Nat.le_refl _) (by omega))
      have hs3 : (w2.setCell ⟨W, x, none⟩ (.slice (some ⟨wo.heap.size, 0, none⟩) m m)).heap.size = w2.heap.size := by simp [World.setCell]
      rw [hG] at hst ownr3 c3 hmore hB3 hs3 hGl
      obtain ⟨w3, hw3⟩ : ∃ w3, w2.setCell ⟨W, x, none⟩ (.slice (some ⟨G, 0, none⟩) m m) = w3 := ⟨_, rfl⟩
      rw [hw3] at hst ownr3 c3 hmore hB3 hs3 ⊢
      have hB := hb.trans hB3
      have hWG : some (⟨W, x, none⟩ : Addr).block ≠ some G := fun e => absurd (Option.some.inj e) (show ¬ W = G by omega)
      have Hmore := Lib.hid hmore
      clear hst hw3 hcu hfu hto ownr hown2 hg2 hb2 hmore hb hB3
      go_loopw [23] (fun i wi => ∃ y : Nat, y ≤ m ∧ i = .int .i64 y ∧ Own wi G (.slice (some ⟨G, 0, none⟩) m m) m (Bp.tab m fun j => if j < y then Bp.pref ps x j else 0) ∧ w3.grownBy wi (some G)) (fun i _ => m - (intOf i).toNat)
      case atStart => exact ⟨0, Nat.zero_le _, rfl, by rw [← show List.replicate m (0 : Int) = Bp.tab m (fun j => if j < 0 then Bp.pref ps x j else 0) by rw [Bp.tab_zero]; exact Bp.tab_congr (fun j _ => by simp)]; exact ownr3, World.grownBy.refl _ _⟩
      case round =>
        obtain ⟨y, hy, rfl, owny, hgy⟩ := hrel
        clear ownr3
        by_cases hyl : y < m
        · have i3 : (0 : Int) ≤ (y : Int) := by omega
          have i4 : (y : Int) < (m : Int) := by omega
          obtain ⟨wy, rfl⟩ : ∃ wy : World, wy = wr := ⟨_, rfl⟩
          go_wp2_with fail
          go_loopw [28] (fun i wk => ∃ k : Nat, k ≤ n ∧ i = .int .i64 k ∧ Own wk G (.slice (some ⟨G, 0, none⟩) m m) m (Bp.tab m fun j => if j < y then Bp.pref ps x j else if j = y then Bp.prefTo ps x y k else 0) ∧ w3.grownBy wk (some G)) (fun i _ => n - (intOf i).toNat)
          case atStart => exact ⟨0, Nat.zero_le _, rfl, by rw [← Bp.tab_congr (f := fun j => if j < y then Bp.pref ps x j else 0) (fun j _ => by rw [Bp.prefTo]; simp)]; exact owny, hgy⟩
          case round =>
            obtain ⟨k, hk, rfl, ownk, hgk⟩ := hrel
            clear owny hgy
            have hBk : Below W w wr := hB.trans (below_only hgk (by omega) (by omega))
            have hck : wr.cell? ⟨W, x, none⟩ = some (.slice (some ⟨G, 0, none⟩) m m) := hgk.cell c3 hWG
            have hszk := hgk.size
            by_cases hkl : k < n
            · have hr := hpW.below hBk
              obtain ⟨g, o, s, v, rfl, hgl, hc1, hc2, hss, hp⟩ := hr.at hkl
              have hkl' : k < ps.length := by rw [hl.out]; exact hkl
              have hv01 := Bp.fits_many_at Hfit.out k hkl'
              rw [hp.out] at hv01
              simp only at hv01
              have hpb := Bp.prefTo_bd (ps := ps) x y (Bp.fits_val Hfit.out) k (by omega)
              have hstep : Bp.prefTo ps x y (k + 1) = if Bp.prefers (Bp.bal s) x y then Bp.prefTo ps x y k + v else Bp.prefTo ps x y k := by
                rw [Bp.prefTo, hp.out]
              have Hstep := Lib.hid hstep
              clear hkl' hstep
              go_wp2_with fail
              refine (ballot_any s v _ hss).mono ?_
              rintro e w4 ⟨A2, n2, c2, rfl, hnc2, hown2, hb2⟩
              have hs2 := hb2.size
              simp at hs2
              have hgk4 : w3.grownBy w4 (some G) := only_keep (only_alloc hgk _) hb2
              have ownk4 : Own w4 G (.slice (some ⟨G, 0, none⟩) m m) m (Bp.tab m fun j => if j < y then Bp.pref ps x j else if j = y then Bp.prefTo ps x y k else 0) := own_keep (ownk.row.alloc _) hb2
              have hbx2 : w4.cell? ⟨wr.heap.size, 1, none⟩ = some (.int .i64 v) := cell_later hb2 (by simp [go_sem])
              have hck4 : w4.cell? ⟨W, x, none⟩ = some (.slice (some ⟨G, 0, none⟩) m m) := hgk4.cell c3 hWG
              have hl2 := Lib.hid hown2.len
              have hn5 : n2 ≤ 5 := by have := Bp.bal_len s; rw [hl2.out] at this; exact this
              have hi2 := hown2.ints
              obtain ⟨ha1, ha2⟩ := own_cell ownk4 y hyl
              rw [Bp.tab_at _ _ hyl, if_neg (by omega), if_pos rfl] at ha1
              obtain ⟨z, hzz⟩ : ∃ z, Bp.prefTo ps x y k = z := ⟨_, rfl⟩
              have hset := own_only_set ownk4 y (z + v)
              rw [hzz] at ha1 hpb
              have Hzz := Lib.hid hzz
              have hG4 := (ownk4.row.lt G rfl).2
              clear hzz hck hr hc1 hc2 hb2 hown2 ownk
              cases hpf : Bp.prefers (Bp.bal s) x y
              · have Hpf := Lib.hid hpf
                have hcall := iBallotPrefers_val A2 n2 c2 x y (Bp.bal s) false hpf _ w4 hi2 (by omega) hnc2 (Bp.bal_val s)
                have Hcall := Lib.hid hcall
                clear hpf hcall
                go_wp2_with (go_at_call 82; refine Hcall.out.mono ?_; rintro e w' ⟨rfl, rfl⟩)
                go_roundw
                case rel => exact ⟨k + 1, by omega, by go_num, by rw [← Bp.tab_congr (f := fun j => if j < y then Bp.pref ps x j else if j = y then Bp.prefTo ps x y k else 0) (fun j _ => by rw [Hstep.out, Hpf.out]; simp)]; exact ownk4, hgk4⟩
                case measure => simp [intOf]; omega
              · have Hpf := Lib.hid hpf
                have hcall := iBallotPrefers_val A2 n2 c2 x y (Bp.bal s) true hpf _ w4 hi2 (by omega) hnc2 (Bp.bal_val s)
                have Hcall := Lib.hid hcall
                clear hpf hcall
                have hnext : Hid (Own (w4.setCell ⟨G, y, none⟩ (.int .i64 (z + v))) G (.slice (some ⟨G, 0, none⟩) m m) m (Bp.tab m fun j => if j < y then Bp.pref ps x j else if j = y then Bp.prefTo ps x y (k + 1) else 0)) := by
                  rw [Bp.tab_set (f := fun j => if j < y then Bp.pref ps x j else if j = y then Bp.prefTo ps x y k else 0) (g := fun j => if j < y then Bp.pref ps x j else if j = y then Bp.prefTo ps x y (k + 1) else 0) (i := y) (v := z + v) hyl (by rw [if_neg (by omega), if_pos rfl, Hstep.out, Hpf.out, if_pos rfl, Hzz.out]) (fun j _ hj => by simp [hj])] at hset
                  exact hset.1
                have hgn : Hid (w3.grownBy (w4.setCell ⟨G, y, none⟩ (.int .i64 (z + v))) (some G)) := only_setCell hgk4 (.inl rfl) _
                clear hset ownk4 hgk4 hgk
                go_wp2_with (go_at_call 82; refine Hcall.out.mono ?_; rintro e w' ⟨rfl, rfl⟩)
                refine wp_region_still_tail 11 (by kernel_rfl) (by kernel_rfl) ?_
                simp only [List.take_succ_cons, List.take_zero, List.drop_succ_cons, List.drop_zero]
                repeat still_step
                refine wpStill_nil ?_
                change wpList _ _ _ _ _ w4.drew
                go_wp2_with fail
                go_roundw
                case rel => exact ⟨k + 1, by omega, by go_num, hnext.out, only_drewN hgn.out 1⟩
                case measure => simp [intOf]; omega
            · have hkn : k = n := by omega
              have He := Lib.hid (show Bp.tab m (fun j => if j < y then Bp.pref ps x j else if j = y then Bp.prefTo ps x y k else 0) = Bp.tab m (fun j => if j < y + 1 then Bp.pref ps x j else 0) from Bp.tab_congr (fun j _ => by
                rcases Nat.lt_trichotomy j y with h1 | h1 | h1
                · rw [if_pos h1, if_pos (by omega)]
                · subst h1
                  rw [if_neg (by omega), if_pos rfl, if_pos (by omega), hkn]
                  unfold Bp.pref
                  rw [hl.out]
                · rw [if_neg (by omega), if_neg (by omega), if_neg (by omega)]))
              clear hkn
              go_wp2_with fail
              go_roundw
              case rel => exact ⟨y + 1, by omega, by go_num, by rw [← He.out]; exact ownk, hgk⟩
              case measure => simp [intOf]; omega
        · have hym : y = m := by omega
          have He := Lib.hid (show Bp.tab m (fun j => if j < y then Bp.pref ps x j else 0) = Bp.tab m (fun j => Bp.pref ps x j) from Bp.tab_congr (fun j hj => by rw [if_pos (by omega)]))
          have hfin := Hmore.out wr _ (Bp.tab_len _ _) hgy (by rw [He.out] at owny; exact owny.base (show W ≤ G by omega))
          have Hfin := Lib.hid hfin
          clear hfin hym
          have hBn : Below W w wr := hB.trans (below_only hgy (by omega) (by omega))
          go_wp2_with fail
          go_roundw
          case rel => exact ⟨x + 1, by omega, by go_num, by rw [Bp.tabTo_succ]; exact Hfin.out, hBn⟩
          case measure => simp [intOf]; omega
    · have hxm : x = m := by omega
      have hfin : OwnTb wo W (.slice (some ⟨W, 0, none⟩) m m) m (Bp.pairs ps m) := by
        have := hown.done (by rw [Bp.tabTo_len]; exact hxm)
        rw [hxm] at this
        exact this
      have Hfin := Lib.hid hfin
      have HW := Lib.hid hW
      clear hfin hxm
      go_wp2_with fail
      go_ret
      exact ⟨W, m, rfl, Nat.le_refl _, by rw [HW.out]; exact Nat.le_refl _, by rw [HW.out]; exact Hfin.out, by rw [HW.out]; exact hb⟩
end Go.Proofs.Ytdcfpobjiofnmaa
