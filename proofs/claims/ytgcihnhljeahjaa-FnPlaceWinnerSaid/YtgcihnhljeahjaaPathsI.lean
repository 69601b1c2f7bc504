/-
  The walks of the program's strengths of paths: pairPaths, PairPaths.
-/
import Derived.Test.YtgcihnhljeahjaaPairS
import Derived.Test.YtgcihnhljeahjaaPathsPlain
namespace Go.Proofs.Ytgcihnhljeahjaa
set_option linter.unusedVariables false
open Go.RowKit

theorem max_min_if (v1 v2 v3 : Int) : (if v1 < (if v3 < v2 then v3 else v2) then (if v3 < v2 then v3 else v2) else v1) = max v1 (min v2 v3) := by
  have e : min v2 v3 = if v3 < v2 then v3 else v2 := by split <;> omega
  rw [← e]
  split <;> omega
set_option maxRecDepth 100000 in
set_option maxHeartbeats 4000000 in
theorem iPaths_any (A : Option Addr) (n c m : Nat) (ps : List Bp.Pile) (w : World) (h : Piles w w.heap.size A n ps) (hn : n ≤ 1048576) (hfit : Bp.fits ps m = true) :
    Calls Try.prog 44 #[.slice A n c, .int .i64 m] w (TabbedI m (Bp.paths ps m) w) := by
  have Hfit := Lib.hid hfit
  obtain ⟨m1, m5⟩ := Bp.fits_n hfit
  obtain ⟨i0, hi0, hz0, hz1, hz2⟩ := info_parts int_info
  obtain ⟨j0, hj0, hy0, hy1, hy2⟩ := info_parts row_info
  clear hfit
  go_enter Try.func44, Try.ntmps44
  go_wp2_with fail
  refine (iPairs_any A n c m ps _ h hn Hfit.out).mono ?_
  rintro e w0 ⟨gc, cc, rfl, hcc, hgc, hown0, hb0⟩
  have hs0 := hb0.size
  have hv := hown0.view
  clear hown0
  go_wp2_with (at_make; refine wpList_make_full _ rfl (.tmp 15) (.tmp 15) 36 rfl w0.heap.size 24 j0 _ 1 Try.underlying36 hj0 hy0 hy1 .i64 .i64 m m m rfl rfl rfl rfl (by rw [hy2]; omega) (by unfold maxLen; omega) (Nat.le_refl _) ?_; intro w1 hown hg)
  have own1 := OwnTo.start hown
  have hb1 : Below w0.heap.size w0 w1 := (Below.refl _ _).grown hg (Nat.le_refl _) (by simp)
  obtain ⟨W, hW⟩ : ∃ W, w0.heap.size = W := ⟨_, rfl⟩
  rw [hW] at own1 hb1 hv hs0 ⊢
  clear hown hg hj0 hy0 hy1 hy2
  go_loopw [19] (fun i wr => ∃ x : Nat, x ≤ m ∧ i = .int .i64 x ∧ OwnTo wr W W m (Bp.tabTo m (Bp.dir ps) x) ∧ Below W w0 wr) (fun i _ => m - (intOf i).toNat)
  case atStart => exact ⟨0, Nat.zero_le _, rfl, own1, hb1⟩
  case round =>
    obtain ⟨x, hx, rfl, hown, hb⟩ := hrel
    clear own1 hb1
    have hz := hb.size
    obtain ⟨wo, rfl⟩ : ∃ wo : World, wo = wr := ⟨_, rfl⟩
    have hW1 := hown.lt
    obtain ⟨G, hG⟩ : ∃ G, wo.heap.size = G := ⟨_, rfl⟩
    by_cases hlt : x < m
    · have i1 : (0 : Int) ≤ (x : Int) := by omega
      have i2 : (x : Int) < (m : Int) := by omega
      go_wp2_with (at_make; refine wpList_make_full _ rfl (.tmp 24) (.tmp 24) 24 rfl wo.heap.size 3 i0 _ 1 Try.underlying24 hi0 hz0 hz1 .i64 .i64 m m m rfl rfl rfl rfl (by rw [hz2]; omega) (by unfold maxLen; omega) (Nat.le_refl _) ?_; intro w2 hown2 hg2; have hb2 : Below wo.heap.size wo w2 := (Below.refl _ _).grown hg2 (Nat.le_refl _) (by simp); have ownr := made_own hown2; have hto := hown.keep hb2; obtain ⟨⟨u, hcu⟩, hfu⟩ := hto.cell hlt)
      have hGl : wo.heap.size < w2.heap.size := (ownr.row.lt _ rfl).2
      have hst := only_setCell (World.grownBy.refl w2 (some W)) (p := ⟨W, x, none⟩) (.inl rfl) (.slice (some ⟨wo.heap.size, 0, none⟩) m m)
      have ownr3 := ownr.only hst (show W < wo.heap.size by omega)
      have c3 : (w2.setCell ⟨W, x, none⟩ (.slice (some ⟨wo.heap.size, 0, none⟩) m m)).cell? ⟨W, x, none⟩ = some (.slice (some ⟨wo.heap.size, 0, none⟩) m m) := World.cell?_setCell_same _ _ _ hcu
      have hmore := fun w3 zs hm hg3 h5 => OwnTo.more (w3 := w3) (zs := zs) (g1 := wo.heap.size) (c := m) (m := m) hown (by rw [Bp.tabTo_len]; exact hlt) (Nat.le_refl _) hb2 hm hg3 h5
      rw [Bp.tabTo_len] at hmore
      have hB3 : Below W wo (w2.setCell ⟨W, x, none⟩ (.slice (some ⟨wo.heap.size, 0, none⟩) m m)) := (hb2.mono (by omega)).trans (below_only hst (Nat.le_refl _) (by omega))
      have hs3 : (w2.setCell ⟨W, x, none⟩ (.slice (some ⟨wo.heap.size, 0, none⟩) m m)).heap.size = w2.heap.size := by simp [World.setCell]
      rw [hG] at hst ownr3 c3 hmore hB3 hs3 hGl
      obtain ⟨w3, hw3⟩ : ∃ w3, w2.setCell ⟨W, x, none⟩ (.slice (some ⟨G, 0, none⟩) m m) = w3 := ⟨_, rfl⟩
      rw [hw3] at hst ownr3 c3 hmore hB3 hs3 ⊢
      have hB := hb.trans hB3
      have hWG : some (⟨W, x, none⟩ : Addr).block ≠ some G := fun e => absurd (Option.some.inj e) (show ¬ W = G by omega)
      have Hmore := Lib.hid hmore
      clear hst hw3 hcu hfu hto ownr hown2 hg2 hb2 hmore hb hB3
      go_loopw [28] (fun i wi => ∃ y : Nat, y ≤ m ∧ i = .int .i64 y ∧ Own wi G (.slice (some ⟨G, 0, none⟩) m m) m (Bp.tab m fun j => if j < y then Bp.dir ps x j else 0) ∧ w3.grownBy wi (some G)) (fun i _ => m - (intOf i).toNat)
      case atStart => exact ⟨0, Nat.zero_le _, rfl, by rw [← show List.replicate m (0 : Int) = Bp.tab m (fun j => if j < 0 then Bp.dir ps x j else 0) by rw [Bp.tab_zero]; exact Bp.tab_congr (fun j _ => by simp)]; exact ownr3, World.grownBy.refl _ _⟩
      case round =>
        obtain ⟨y, hy, rfl, owny, hgy⟩ := hrel
        clear ownr3
        have hBy : Below W w0 wr := hB.trans (below_only hgy (by omega) (by omega))
        by_cases hyl : y < m
        · have i3 : (0 : Int) ≤ (y : Int) := by omega
          have i4 : (y : Int) < (m : Int) := by omega
          have hcy : wr.cell? ⟨W, x, none⟩ = some (.slice (some ⟨G, 0, none⟩) m m) := hgy.cell c3 hWG
          obtain ⟨g1, o1, c1, a1, a2, _, _⟩ := (hv.below hBy).get rfl hlt (by unfold Bp.pairs; rw [Bp.tabs_at _ _ hlt, Bp.tab_len]) hyl
          obtain ⟨g2, o2, c2, b1, b2, _, _⟩ := (hv.below hBy).get rfl hyl (by unfold Bp.pairs; rw [Bp.tabs_at _ _ hyl, Bp.tab_len]) hlt
          rw [Nat.zero_add] at a1 b1
          unfold Bp.pairs at a2 b2
          rw [Bp.tabs_cell _ _ hlt hyl] at a2
          rw [Bp.tabs_cell _ _ hyl hlt] at b2
          obtain ⟨ha1, ha2⟩ := own_cell owny y hyl
          rw [Bp.tab_at _ _ hyl, if_neg (by omega)] at ha1
          have hdir : Bp.dir ps x y = if Bp.pref ps y x < Bp.pref ps x y then Bp.pref ps x y else 0 := rfl
          obtain ⟨z1, hz1⟩ : ∃ z, Bp.pref ps x y = z := ⟨_, rfl⟩
          obtain ⟨z2, hz2⟩ : ∃ z, Bp.pref ps y x = z := ⟨_, rfl⟩
          rw [hz1, hz2] at hdir
          rw [hz1] at a2
          rw [hz2] at b2
          by_cases hgt : z2 < z1
          · rw [if_pos hgt] at hdir
            have Hgt := Lib.hid hgt
            clear hz1 hz2
            go_wp2_with fail
            go_quiet (fail)
            go_wp2_with fail
            obtain ⟨w5, hw5⟩ : ∃ w5, wr.drewN nq = w5 := ⟨_, rfl⟩
            have owny5 : Own w5 G (.slice (some ⟨G, 0, none⟩) m m) m (Bp.tab m fun j => if j < y then Bp.dir ps x j else 0) := by rw [← hw5]; exact owny
            have hgy5 : w3.grownBy w5 (some G) := by rw [← hw5]; exact only_drewN hgy nq
            have hcy5 : w5.cell? ⟨W, x, none⟩ = some (.slice (some ⟨G, 0, none⟩) m m) := by rw [← hw5]; exact hcy
            have a15 : w5.cell? ⟨gc, x, none⟩ = some (.slice (some ⟨g1, o1, none⟩) m c1) := by rw [← hw5]; exact a1
            have a25 : w5.cell? ⟨g1, o1 + y, none⟩ = some (.int .i64 z1) := by rw [← hw5]; exact a2
            rw [hw5]
            obtain ⟨ha1, ha2⟩ := own_cell owny5 y hyl
            rw [Bp.tab_at _ _ hyl, if_neg (by omega)] at ha1
            have hset := own_only_set owny5 y z1
            rw [Bp.tab_set (f := fun j => if j < y then Bp.dir ps x j else 0) (g := fun j => if j < y + 1 then Bp.dir ps x j else 0) (i := y) (v := z1) hyl (by rw [if_pos (by omega), hdir]) (fun j _ hj => by
              by_cases h1 : j < y
              · rw [if_pos h1, if_pos (by omega)]
              · rw [if_neg h1, if_neg (by omega)])] at hset
            have hgn : Hid (w3.grownBy (w5.setCell ⟨G, y, none⟩ (.int .i64 z1)) (some G)) := only_setCell hgy5 (.inl rfl) _
            have Hset := Lib.hid hset.1
            clear hset hdir owny owny5 hgy hgy5 hcy a1 a2 b1 b2 hw5
            refine wp_region_still_tail 13 (by kernel_rfl) (by kernel_rfl) ?_
            simp only [List.take_succ_cons, List.take_zero, List.drop_succ_cons, List.drop_zero]
            repeat still_step
            refine wpStill_nil ?_
            change wpList _ _ _ _ _ w5.drew
            go_wp2_with fail
            go_roundw
            case rel => exact ⟨y + 1, by omega, by go_num, Hset.out, only_drewN hgn.out 1⟩
            case measure => simp [intOf]; omega
          · rw [if_neg hgt] at hdir
            have Hgt := Lib.hid hgt
            have He := Lib.hid (show Bp.tab m (fun j => if j < y then Bp.dir ps x j else 0) = Bp.tab m (fun j => if j < y + 1 then Bp.dir ps x j else 0) from Bp.tab_congr (fun j _ => by
              rcases Nat.lt_trichotomy j y with h1 | h1 | h1
              · rw [if_pos h1, if_pos (by omega)]
              · subst h1
                rw [if_neg (by omega), if_pos (by omega), hdir]
              · rw [if_neg (by omega), if_neg (by omega)]))
            have dgt : decide (z2 < z1) = false := decide_eq_false hgt
            clear hz1 hz2 hdir
            go_wp2_with fail
            go_quiet (fail)
            go_wp2_with fail
            go_roundw
            case rel => exact ⟨y + 1, by omega, by go_num, by rw [← He.out]; exact owny.keep (Drawn.below ⟨nq, rfl⟩ _), only_drewN hgy nq⟩
            case measure => simp [intOf]; omega
        · have hym : y = m := by omega
          have He := Lib.hid (show Bp.tab m (fun j => if j < y then Bp.dir ps x j else 0) = Bp.tab m (fun j => Bp.dir ps x j) from Bp.tab_congr (fun j hj => by rw [if_pos (by omega)]))
          have hfin := Hmore.out wr _ (Bp.tab_len _ _) hgy (by rw [He.out] at owny; exact owny.base (show W ≤ G by omega))
          have Hfin := Lib.hid hfin
          clear hfin hym
          go_wp2_with fail
          go_roundw
          case rel => exact ⟨x + 1, by omega, by go_num, by rw [Bp.tabTo_succ]; exact Hfin.out, hBy⟩
          case measure => simp [intOf]; omega
    · have hxm : x = m := by omega
      have hfin : OwnTb wo W (.slice (some ⟨W, 0, none⟩) m m) m (Bp.tabs m (Bp.dir ps)) := by
        have := hown.done (by rw [Bp.tabTo_len]; exact hxm)
        rw [hxm] at this
        exact this
      clear hxm hown hv hW1
      go_wp2_with fail
      go_loopw [62] (fun i wr => ∃ o : Nat, o ≤ m ∧ i = .int .i64 o ∧ OwnTb wr W (.slice (some ⟨W, 0, none⟩) m m) m (Bp.tabs m (Bp.viaO m (Bp.dir ps) o)) ∧ Below W w0 wr) (fun i _ => m - (intOf i).toNat)
      case atStart => exact ⟨0, Nat.zero_le _, rfl, hfin, hb⟩
      case round =>
        obtain ⟨o, ho, rfl, hown, hb⟩ := hrel
        clear hfin
        obtain ⟨wo1, rfl⟩ : ∃ wo : World, wo = wr := ⟨_, rfl⟩
        by_cases hol : o < m
        · go_wp2_with fail
          go_loopw [66] (fun i wr => ∃ x : Nat, x ≤ m ∧ i = .int .i64 x ∧ OwnTb wr W (.slice (some ⟨W, 0, none⟩) m m) m (Bp.tabs m (Bp.viaX m o (Bp.viaO m (Bp.dir ps) o) x)) ∧ Below W w0 wr) (fun i _ => m - (intOf i).toNat)
          case atStart => exact ⟨0, Nat.zero_le _, rfl, hown, hb⟩
          case round =>
            obtain ⟨x, hx, rfl, hown, hb⟩ := hrel
            obtain ⟨wo2, rfl⟩ : ∃ wo : World, wo = wr := ⟨_, rfl⟩
            by_cases hxl : x < m
            · go_wp2_with fail
              go_loopw [70] (fun i wr => ∃ y : Nat, y ≤ m ∧ i = .int .i64 y ∧ OwnTb wr W (.slice (some ⟨W, 0, none⟩) m m) m (Bp.tabs m (Bp.viaY o x (Bp.viaX m o (Bp.viaO m (Bp.dir ps) o) x) y)) ∧ Below W w0 wr) (fun i _ => m - (intOf i).toNat)
              case atStart => exact ⟨0, Nat.zero_le _, rfl, hown, hb⟩
              case round =>
                obtain ⟨y, hy, rfl, hown, hb⟩ := hrel
                by_cases hyl : y < m
                · by_cases hxy : x = y
                  · have e1 := Bp.via_self o x (Bp.viaY o x (Bp.viaX m o (Bp.viaO m (Bp.dir ps) o) x) y)
                    have e2 : Bp.viaY o x (Bp.viaX m o (Bp.viaO m (Bp.dir ps) o) x) (y + 1) = Bp.viaY o x (Bp.viaX m o (Bp.viaO m (Bp.dir ps) o) x) y := by
                      rw [Bp.viaY, ← hxy]; rw [← hxy] at e1; exact e1
                    have He := Lib.hid e2
                    have d1 : ((x : Int) != (y : Int)) = false := by simp; omega
                    clear hxy e1 e2
                    go_wp2_with fail
                    go_roundw
                    case rel => exact ⟨y + 1, by omega, by go_num, by rw [He.out]; exact hown, hb⟩
                    case measure => simp [intOf]; omega
                  · have d1 : ((x : Int) != (y : Int)) = true := by simp; omega
                    have He := Lib.hid (show Bp.viaY o x (Bp.viaX m o (Bp.viaO m (Bp.dir ps) o) x) (y + 1) = Bp.via o x y (Bp.viaY o x (Bp.viaX m o (Bp.viaO m (Bp.dir ps) o) x) y) from rfl)
                    obtain ⟨f, hf⟩ : ∃ f, Bp.viaY o x (Bp.viaX m o (Bp.viaO m (Bp.dir ps) o) x) y = f := ⟨_, rfl⟩
                    rw [hf] at hown He
                    have Hvia := Lib.hid (Bp.via_tabs (o := o) f hxl hyl hxy)
                    have Hxy := Lib.hid hxy
                    have i1 : (0 : Int) ≤ (x : Int) := by omega
                    have i2 : (x : Int) < (m : Int) := by omega
                    have i3 : (0 : Int) ≤ (y : Int) := by omega
                    have i4 : (y : Int) < (m : Int) := by omega
                    have i5 : (0 : Int) ≤ (o : Int) := by omega
                    have i6 : (o : Int) < (m : Int) := by omega
                    obtain ⟨gx, cx, hcx, ownx, hbx, hlx, hgl, hmx, hset⟩ := hown.row (m := m) hxl (by rw [Bp.tabs_at _ _ hxl, Bp.tab_len])
                    obtain ⟨go, co, hco, owno, _, _, _, hmo, _⟩ := hown.row (m := m) hol (by rw [Bp.tabs_at _ _ hol, Bp.tab_len])
                    obtain ⟨p1, p2⟩ := own_cell ownx y hyl
                    obtain ⟨p3, _⟩ := own_cell ownx o hol
                    obtain ⟨p4, _⟩ := own_cell owno y hyl
                    rw [Bp.tabs_at _ _ hxl, Bp.tab_at _ _ hyl] at p1
                    rw [Bp.tabs_at _ _ hxl, Bp.tab_at _ _ hol] at p3
                    rw [Bp.tabs_at _ _ hol, Bp.tab_at _ _ hyl] at p4
                    have hst := own_only_set ownx y (max (f x y) (min (f x o) (f o y)))
                    have hnew := hset _ _ (by rw [List.length_set, Bp.tabs_at _ _ hxl, Bp.tab_len]) hst.2 hst.1
                    rw [Hvia.out, ← He.out] at hnew
                    have hgn := below_only hst.2 hbx (by omega)
                    obtain ⟨v1, hv1⟩ : ∃ v, f x y = v := ⟨_, rfl⟩
                    obtain ⟨v2, hv2⟩ : ∃ v, f x o = v := ⟨_, rfl⟩
                    obtain ⟨v3, hv3⟩ : ∃ v, f o y = v := ⟨_, rfl⟩
                    rw [hv1] at p1 hnew hgn
                    rw [hv2] at p3 hnew hgn
                    rw [hv3] at p4 hnew hgn
                    have Hnew := Lib.hid hnew
                    have Hgn := Lib.hid (hb.trans hgn)
                    clear hnew hgn hst hset hown ownx owno hf hxy hv1 hv2 hv3
                    go_wp2_with fail
                    refine wp_region_still_tail 29 (by kernel_rfl) (by kernel_rfl) ?_
                    simp only [List.take_succ_cons, List.take_zero, List.drop_succ_cons, List.drop_zero]
                    repeat still_step
                    refine wpStill_nil ?_
                    change wpList _ _ _ _ _ wr.drew
                    go_wp2_with fail
                    go_roundw
                    case rel => exact ⟨y + 1, by omega, by go_num, by rw [max_min_if]; exact Hnew.out.keep (below_drewN (Below.refl _ _) 1), by rw [max_min_if]; exact below_drewN Hgn.out 1⟩
                    case measure => simp [intOf]; omega
                · have hym : y = m := by omega
                  subst hym
                  go_wp2_with fail
                  go_roundw
                  case rel => exact ⟨x + 1, by omega, by go_num, hown, hb⟩
                  case measure => simp [intOf]; omega
            · have hxm : x = m := by omega
              subst hxm
              go_wp2_with fail
              go_roundw
              case rel => exact ⟨o + 1, by omega, by go_num, hown, hb⟩
              case measure => simp [intOf]; omega
        · have hom : o = m := by omega
          subst hom
          have HW := Lib.hid hW
          go_wp2_with fail
          go_ret
          exact ⟨W, _, rfl, Nat.le_refl _, by omega, hown.base (by omega), hb0.trans (hb.mono (by omega))⟩

set_option maxRecDepth 100000 in
set_option maxHeartbeats 400000 in
theorem iPairPaths_any (A : Option Addr) (n c : Nat) (m : Int) (ps : List Bp.Pile) (w : World) (h : Piles w w.heap.size A n ps) (hn : n ≤ 1048576) (hnc : n ≤ c) :
    Calls Try.prog 18 #[.slice A n c, .int .i64 m] w (TabRes (Bp.fits ps m) (Bp.paths ps m.toNat) w) := by
  cases hf : Bp.fits ps m
  · have Hf := Lib.hid hf
    go_enter Try.func18, Try.ntmps18
    go_wp2_with (go_at_call 36; refine (pilesFit_any A n c m ps _ h hn hnc).mono ?_; rintro e w1 ⟨rfl, hb1⟩)
    go_ret2
    exact ⟨none, 0, 0, rfl, Nat.le_refl _, by omega, by rw [tres_no rfl]; exact OwnTb.nil _ _, hb1⟩
  · have hm := Bp.fits_n hf
    obtain ⟨q, rfl⟩ := Int.eq_ofNat_of_zero_le (show 0 ≤ m by omega)
    have Hf := Lib.hid hf
    go_enter Try.func18, Try.ntmps18
    go_wp2_with (go_at_call 36; refine (pilesFit_any A n c _ ps _ h hn hnc).mono ?_; rintro e w1 ⟨rfl, hb1⟩)
    have hs1 := hb1.size
    refine (iPaths_any A n c q ps _ ((h.below hb1).mono hs1) hn Hf.out).mono ?_
    rintro e w2 ⟨g, c2, rfl, hc2, hg2, hown, hb2⟩
    go_wp2_with fail
    go_ret2
    exact ⟨_, q, c2, rfl, hc2, by omega, by rw [tres_yes rfl]; exact hown.base hs1, hb1.trans (hb2.mono hs1)⟩
end Go.Proofs.Ytgcihnhljeahjaa
