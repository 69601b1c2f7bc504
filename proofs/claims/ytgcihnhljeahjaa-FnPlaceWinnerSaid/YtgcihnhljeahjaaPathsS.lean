/-
  The walks of the reference's strengths of paths: l13Paths, PairPaths.
-/
import Derived.Test.YtgcihnhljeahjaaPathsI
namespace Go.Proofs.Ytgcihnhljeahjaa
set_option linter.unusedVariables false
open Go.RowKit

set_option maxRecDepth 100000 in
set_option maxHeartbeats 4000000 in
theorem sPaths_any (gc m cc : Nat) (ps : List Bp.Pile) (w : World) (h : TabV w w.heap.size (some ⟨gc, 0, none⟩) m (Bp.pairs ps m)) (m1 : 1 ≤ m) (m5 : m ≤ 5) (hcc : m ≤ cc) :
    Calls Try.prog 45 #[.slice (some ⟨gc, 0, none⟩) m cc] w (TabbedI m (Bp.paths ps m) w) := by
  obtain ⟨i0, hi0, hz0, hz1, hz2⟩ := info_parts int_info
  obtain ⟨j0, hj0, hy0, hy1, hy2⟩ := info_parts row_info
  obtain ⟨W, hW⟩ : ∃ W, w.heap.size = W := ⟨_, rfl⟩
  have htb := tb_lit (Nat.le_refl w.heap.size)
  have hb1 : Below w.heap.size w (w.alloc (.cells #[] 24)) := (Below.refl _ _).alloc (Nat.le_refl _) _
  go_enter Try.func45, Try.ntmps45
  go_wp2_with fail
  obtain ⟨w1, hw1⟩ : ∃ w1, w.alloc (.cells #[] 24) = w1 := ⟨_, rfl⟩
  rw [hw1] at htb hb1 ⊢
  rw [hW] at htb hb1 h
  have hv := h
  clear hw1
  go_loopw [3, 4] (fun v i wr => ∃ (x : Nat) (A3 : Option Addr) (c3 : Nat), x ≤ m ∧ v = .slice A3 x c3 ∧ x ≤ c3 ∧ i = .int .i64 x ∧ OwnTb wr W (.slice A3 x c3) x (Bp.tabTo m (Bp.dir ps) x) ∧ Below W w wr) (fun _ i _ => m - (intOf i).toNat)
  case atStart => exact ⟨0, _, 0, Nat.zero_le _, rfl, Nat.le_refl _, rfl, htb, hb1⟩
  case round =>
    obtain ⟨x, A3, c3, hx, rfl, hxc, rfl, ⟨vs, hown⟩, hb⟩ := hrel
    clear htb hb1
    have hz := hb.size
    obtain ⟨wo, rfl⟩ : ∃ wo : World, wo = wr := ⟨_, rfl⟩
    obtain ⟨G, hG⟩ : ∃ G, wo.heap.size = G := ⟨_, rfl⟩
    by_cases hlt : x < m
    · have i1 : (0 : Int) ≤ (x : Int) := by omega
      have i2 : (x : Int) < (m : Int) := by omega
      go_wp2_with (at_make; refine wpList_make_full _ rfl (.tmp 18) (.tmp 18) 24 rfl wo.heap.size 3 i0 _ 1 Try.underlying24 hi0 hz0 hz1 .i64 .i64 m m m rfl rfl rfl rfl (by rw [hz2]; omega) (by unfold maxLen; omega) (Nat.le_refl _) ?_; intro w2 hown2 hg2)
      have hb2 : Below wo.heap.size wo w2 := (Below.refl _ _).grown hg2 (Nat.le_refl _) (by simp)
      have ownr := made_own hown2
      have hpast := fun wi hg => TbAt.past (wi := wi) hown hb2 hg (Nat.le_refl _)
      rw [hG] at ownr hpast
      have hGl := (ownr.row.lt _ rfl).2
      have hWG : W ≤ G := by omega
      have hB := hb.trans (hb2.mono (by omega))
      have hs2 := hb2.size
      rw [hG] at hs2
      have Hpast := Lib.hid hpast
      clear hown2 hg2 hb2 hpast hb hown hz
      go_loopw [6] (fun i wi => ∃ y : Nat, y ≤ m ∧ i = .int .i64 y ∧ Own wi G (.slice (some ⟨G, 0, none⟩) m m) m (Bp.tab m fun j => if j < y then Bp.dir ps x j else 0) ∧ w2.grownBy wi (some G)) (fun i _ => m - (intOf i).toNat)
      case atStart => exact ⟨0, Nat.zero_le _, rfl, by rw [← show List.replicate m (0 : Int) = Bp.tab m (fun j => if j < 0 then Bp.dir ps x j else 0) by rw [Bp.tab_zero]; exact Bp.tab_congr (fun j _ => by simp)]; exact ownr, World.grownBy.refl _ _⟩
      case round =>
        obtain ⟨y, hy, rfl, owny, hgy⟩ := hrel
        clear ownr
        have hBy : Below W w wr := hB.trans (below_only hgy (by omega) (by omega))
        by_cases hyl : y < m
        · have i3 : (0 : Int) ≤ (y : Int) := by omega
          have i4 : (y : Int) < (m : Int) := by omega
          obtain ⟨g1, o1, c1, a1, a2, _, _⟩ := (hv.below hBy).get rfl hlt (by unfold Bp.pairs; rw [Bp.tabs_at _ _ hlt, Bp.tab_len]) hyl
          obtain ⟨g2, o2, c2, b1, b2, _, _⟩ := (hv.below hBy).get rfl hyl (by unfold Bp.pairs; rw [Bp.tabs_at _ _ hyl, Bp.tab_len]) hlt
          rw [Nat.zero_add] at a1 b1
          unfold Bp.pairs at a2 b2
          rw [Bp.tabs_cell _ _ hlt hyl] at a2
          rw [Bp.tabs_cell _ _ hyl hlt] at b2
          have hdir : Bp.dir ps x y = if Bp.pref ps y x < Bp.pref ps x y then Bp.pref ps x y else 0 := rfl
          obtain ⟨z1, hz1⟩ : ∃ z, Bp.pref ps x y = z := ⟨_, rfl⟩
          obtain ⟨z2, hz2⟩ : ∃ z, Bp.pref ps y x = z := ⟨_, rfl⟩
          rw [hz1, hz2] at hdir
          rw [hz1] at a2
          rw [hz2] at b2
          by_cases hgt : z2 < z1
          · rw [if_pos hgt] at hdir
            have Hgt := Lib.hid hgt
            clear hz1 hz2
            go_wp2_with fail
            go_quiet (fail)
            obtain ⟨w5, hw5⟩ : ∃ w5, wr.drewN nq = w5 := ⟨_, rfl⟩
            have owny5 : Own w5 G (.slice (some ⟨G, 0, none⟩) m m) m (Bp.tab m fun j => if j < y then Bp.dir ps x j else 0) := by rw [← hw5]; exact owny
            have hgy5 : w2.grownBy w5 (some G) := by rw [← hw5]; exact only_drewN hgy nq
            have a15 : w5.cell? ⟨gc, x, none⟩ = some (.slice (some ⟨g1, o1, none⟩) m c1) := by rw [← hw5]; exact a1
            have a25 : w5.cell? ⟨g1, o1 + y, none⟩ = some (.int .i64 z1) := by rw [← hw5]; exact a2
            rw [hw5]
            obtain ⟨ha1, ha2⟩ := own_cell owny5 y hyl
            rw [Bp.tab_at _ _ hyl, if_neg (by omega)] at ha1
            have hset := own_only_set owny5 y z1
            rw [Bp.tab_set (f := fun j => if j < y then Bp.dir ps x j else 0) (g := fun j => if j < y + 1 then Bp.dir ps x j else 0) (i := y) (v := z1) hyl (by rw [if_pos (by omega), hdir]) (fun j _ hj => by
              by_cases h1 : j < y
              · rw [if_pos h1, if_pos (by omega)]
              · rw [if_neg h1, if_neg (by omega)])] at hset
            have hgn : Hid (w2.grownBy (w5.setCell ⟨G, y, none⟩ (.int .i64 z1)) (some G)) := only_setCell hgy5 (.inl rfl) _
            have Hset := Lib.hid hset.1
            clear hset hdir owny owny5 hgy hgy5 a1 a2 b1 b2 hw5
            go_wp2_with fail
            go_roundw
            case rel => exact ⟨y + 1, by omega, by go_num, Hset.out, hgn.out⟩
            case measure => simp [intOf]; omega
          · rw [if_neg hgt] at hdir
            have Hgt := Lib.hid hgt
            have He := Lib.hid (show Bp.tab m (fun j => if j < y then Bp.dir ps x j else 0) = Bp.tab m (fun j => if j < y + 1 then Bp.dir ps x j else 0) from Bp.tab_congr (fun j _ => by
              rcases Nat.lt_trichotomy j y with h1 | h1 | h1
              · rw [if_pos h1, if_pos (by omega)]
              · subst h1
                rw [if_neg (by omega), if_pos (by omega), hdir]
              · rw [if_neg (by omega), if_neg (by omega)]))
            have dgt : decide (z2 < z1) = false := decide_eq_false hgt
            clear hz1 hz2 hdir
            go_wp2_with fail
            go_quiet (fail)
            go_wp2_with fail
            go_roundw
            case rel => exact ⟨y + 1, by omega, by go_num, by rw [← He.out]; exact owny.keep (Drawn.below ⟨nq, rfl⟩ _), only_drewN hgy nq⟩
            case measure => simp [intOf]; omega
        · have hym : y = m := by omega
          obtain ⟨hat, hv', hvs⟩ := Hpast.out wr hgy
          have hrow := hat.2.1
          have He := Lib.hid (show Bp.tab m (fun j => if j < y then Bp.dir ps x j else 0) = Bp.tab m (fun j => Bp.dir ps x j) from Bp.tab_congr (fun j hj => by rw [if_pos (by omega)]))
          have ownW := owny.base hWG
          have hal : ∀ o : Obj, Below wr.heap.size wr (wr.alloc o) := fun o => (Below.refl _ _).alloc (Nat.le_refl _) o
          have hszw := hgy.size
          have hsnoc := fun o w1 v' hg hat' hown' => OwnTb.snoc (A := none) (c := 0) (w := wr.alloc o) (w1 := w1) (v' := v') ⟨hat.1, own_keep hat.2.1 (hal o), hat.2.2.keep (hal o)⟩ (Bp.tab_len _ _) (ownW.keep (hal o)) hv' hvs hg hat' hown'
          have Hsnoc := Lib.hid hsnoc
          have hblk : ∀ b, (Value.slice A3 x c3).ownBlock = some b → W ≤ b := fun b e => (hrow.lt b e).1
          have Hblk := Lib.hid hblk
          clear hsnoc hat hblk
          go_wp2_with (at_builtin; refine wpList_append_own_at _ rfl (.tmp 51) (.tmp 53) 36 rfl W 24 j0 _ 1 24 Try.underlying36 hj0 hy0 hy1 hy2 rfl (by decide) (.slice A3 x c3) x _ rfl (hrow.alloc _) ⟨wr.heap.size, 0, none⟩ 1 1 [.slice (some ⟨G, 0, none⟩) m m] rfl rfl (cell_one_new _ _ _) (by simp [Value.oneCell']) (by unfold maxLen; omega) (by omega) (by simp; omega) ?_; intro v1 w6 hown6 hg6 _ hat6; obtain ⟨A4, c4, rfl, hkc1⟩ := own_slice hown6)
          go_roundw
          case rel => exact ⟨x + 1, A4, c4, by omega, by go_num, by omega, by go_num, by rw [Bp.tabTo_succ, ← He.out]; exact Hsnoc.out _ _ _ hg6 hat6 hown6, (hBy.trans ((hal _).mono (by omega))).grown hg6 (by simp; omega) (fun b e => Hblk.out b e)⟩
          case measure => simp [intOf]; omega
    · have hxm : x = m := by omega
      have hfin : OwnTb wo W (.slice A3 m c3) m (Bp.tabs m (Bp.dir ps)) := by
        have : OwnTb wo W (.slice A3 x c3) x (Bp.tabTo m (Bp.dir ps) x) := ⟨vs, hown⟩
        rw [hxm] at this
        exact this
      obtain ⟨gp, hA3, hg3⟩ : ∃ g, A3 = some ⟨g, 0, none⟩ ∧ W ≤ g := by
        rcases hown.2.1.2 with ⟨e, h0⟩ | ⟨g, cap, cur, e, hbg, _⟩
        · omega
        · injection e with e _ _
          exact ⟨g, e, hbg⟩
      subst hA3
      clear hown hv
      have hmx : m = x := hxm.symm
      clear hxm
      subst hmx
      go_wp2_with fail
      go_loopw [7] (fun i wr => ∃ o : Nat, o ≤ m ∧ i = .int .i64 o ∧ OwnTb wr W (.slice (some ⟨gp, 0, none⟩) m c3) m (Bp.tabs m (Bp.viaO m (Bp.dir ps) o)) ∧ Below W w wr) (fun i _ => m - (intOf i).toNat)
      case atStart => exact ⟨0, Nat.zero_le _, rfl, hfin, hb⟩
      case round =>
        obtain ⟨o, ho, rfl, hown, hb⟩ := hrel
        clear hfin
        obtain ⟨wo1, rfl⟩ : ∃ wo : World, wo = wr := ⟨_, rfl⟩
        by_cases hol : o < m
        · go_wp2_with fail
          go_loopw [8] (fun i wr => ∃ x : Nat, x ≤ m ∧ i = .int .i64 x ∧ OwnTb wr W (.slice (some ⟨gp, 0, none⟩) m c3) m (Bp.tabs m (Bp.viaX m o (Bp.viaO m (Bp.dir ps) o) x)) ∧ Below W w wr) (fun i _ => m - (intOf i).toNat)
          case atStart => exact ⟨0, Nat.zero_le _, rfl, hown, hb⟩
          case round =>
            obtain ⟨x, hx, rfl, hown, hb⟩ := hrel
            obtain ⟨wo2, rfl⟩ : ∃ wo : World, wo = wr := ⟨_, rfl⟩
            by_cases hxl : x < m
            · go_wp2_with fail
              go_loopw [9] (fun i wr => ∃ y : Nat, y ≤ m ∧ i = .int .i64 y ∧ OwnTb wr W (.slice (some ⟨gp, 0, none⟩) m c3) m (Bp.tabs m (Bp.viaY o x (Bp.viaX m o (Bp.viaO m (Bp.dir ps) o) x) y)) ∧ Below W w wr) (fun i _ => m - (intOf i).toNat)
              case atStart => exact ⟨0, Nat.zero_le _, rfl, hown, hb⟩
              case round =>
                obtain ⟨y, hy, rfl, hown, hb⟩ := hrel
                by_cases hyl : y < m
                · by_cases hxy : x = y
                  · have e1 := Bp.via_self o x (Bp.viaY o x (Bp.viaX m o (Bp.viaO m (Bp.dir ps) o) x) y)
                    have e2 : Bp.viaY o x (Bp.viaX m o (Bp.viaO m (Bp.dir ps) o) x) (y + 1) = Bp.viaY o x (Bp.viaX m o (Bp.viaO m (Bp.dir ps) o) x) y := by
                      rw [Bp.viaY, ← hxy]; rw [← hxy] at e1; exact e1
                    have He := Lib.hid e2
                    have d1 : ((x : Int) != (y : Int)) = false := by simp; omega
                    clear hxy e1 e2
                    go_wp2_with fail
                    go_roundw
                    case rel => exact ⟨y + 1, by omega, by go_num, by rw [He.out]; exact hown, hb⟩
                    case measure => simp [intOf]; omega
                  · have d1 : ((x : Int) != (y : Int)) = true := by simp; omega
                    have He := Lib.hid (show Bp.viaY o x (Bp.viaX m o (Bp.viaO m (Bp.dir ps) o) x) (y + 1) = Bp.via o x y (Bp.viaY o x (Bp.viaX m o (Bp.viaO m (Bp.dir ps) o) x) y) from rfl)
                    obtain ⟨f, hf⟩ : ∃ f, Bp.viaY o x (Bp.viaX m o (Bp.viaO m (Bp.dir ps) o) x) y = f := ⟨_, rfl⟩
                    rw [hf] at hown He
                    have Hvia := Lib.hid (Bp.via_tabs (o := o) f hxl hyl hxy)
                    have Hxy := Lib.hid hxy
                    have i1 : (0 : Int) ≤ (x : Int) := by omega
                    have i2 : (x : Int) < (m : Int) := by omega
                    have i3 : (0 : Int) ≤ (y : Int) := by omega
                    have i4 : (y : Int) < (m : Int) := by omega
                    have i5 : (0 : Int) ≤ (o : Int) := by omega
                    have i6 : (o : Int) < (m : Int) := by omega
                    obtain ⟨gx, cx, hcx, ownx, hbx, hlx, hgl, hmx, hset⟩ := hown.row (m := m) hxl (by rw [Bp.tabs_at _ _ hxl, Bp.tab_len])
                    obtain ⟨go, co, hco, owno, _, _, _, hmo, _⟩ := hown.row (m := m) hol (by rw [Bp.tabs_at _ _ hol, Bp.tab_len])
                    obtain ⟨p1, p2⟩ := own_cell ownx y hyl
                    obtain ⟨p3, _⟩ := own_cell ownx o hol
                    obtain ⟨p4, _⟩ := own_cell owno y hyl
                    rw [Bp.tabs_at _ _ hxl, Bp.tab_at _ _ hyl] at p1
                    rw [Bp.tabs_at _ _ hxl, Bp.tab_at _ _ hol] at p3
                    rw [Bp.tabs_at _ _ hol, Bp.tab_at _ _ hyl] at p4
                    have hst := own_only_set ownx y (max (f x y) (min (f x o) (f o y)))
                    have hnew := hset _ _ (by rw [List.length_set, Bp.tabs_at _ _ hxl, Bp.tab_len]) hst.2 hst.1
                    rw [Hvia.out, ← He.out] at hnew
                    have hgn := below_only hst.2 hbx (by omega)
                    obtain ⟨v1, hv1⟩ : ∃ v, f x y = v := ⟨_, rfl⟩
                    obtain ⟨v2, hv2⟩ : ∃ v, f x o = v := ⟨_, rfl⟩
                    obtain ⟨v3, hv3⟩ : ∃ v, f o y = v := ⟨_, rfl⟩
                    rw [hv1] at p1 hnew hgn
                    rw [hv2] at p3 hnew hgn
                    rw [hv3] at p4 hnew hgn
                    have Hnew := Lib.hid hnew
                    have Hgn := Lib.hid (hb.trans hgn)
                    clear hnew hgn hst hset hown ownx owno hf hxy hv1 hv2 hv3
                    go_wp2_with fail
                    refine wp_region_still_tail 29 (by kernel_rfl) (by kernel_rfl) ?_
                    simp only [List.take_succ_cons, List.take_zero, List.drop_succ_cons, List.drop_zero]
                    repeat still_step
                    refine wpStill_nil ?_
                    change wpList _ _ _ _ _ wr.drew
                    go_wp2_with fail
                    go_roundw
                    case rel => exact ⟨y + 1, by omega, by go_num, by rw [max_min_if]; exact Hnew.out.keep (below_drewN (Below.refl _ _) 1), by rw [max_min_if]; exact below_drewN Hgn.out 1⟩
                    case measure => simp [intOf]; omega
                · have hym : y = m := by omega
                  subst hym
                  go_wp2_with fail
                  go_roundw
                  case rel => exact ⟨x + 1, by omega, by go_num, hown, hb⟩
                  case measure => simp [intOf]; omega
            · have hxm : x = m := by omega
              subst hxm
              go_wp2_with fail
              go_roundw
              case rel => exact ⟨o + 1, by omega, by go_num, hown, hb⟩
              case measure => simp [intOf]; omega
        · have hom : o = m := by omega
          subst hom
          have HW := Lib.hid hW
          go_wp2_with fail
          go_ret
          exact ⟨gp, c3, rfl, hxc, by omega, hown.base (by omega), hb.mono (by omega)⟩

set_option maxRecDepth 100000 in
set_option maxHeartbeats 400000 in
theorem sPairPaths_any (A : Option Addr) (n c : Nat) (m : Int) (ps : List Bp.Pile) (w : World) (h : Piles w w.heap.size A n ps) (hn : n ≤ 1048576) :
    Calls Try.prog 19 #[.slice A n c, .int .i64 m] w (TabRes (Bp.fits ps m) (Bp.paths ps m.toNat) w) := by
  cases hf : Bp.fits ps m
  · have Hf := Lib.hid hf
    go_enter Try.func19, Try.ntmps19
    go_wp2_with (go_at_call 32; refine (l3Fits_any A n c m ps _ h hn).mono ?_; rintro e w1 ⟨rfl, hb1⟩)
    go_ret2
    exact ⟨_, 0, 0, rfl, Nat.le_refl _, by omega, by rw [tres_no rfl]; exact tb_lit hb1.size, hb1.alloc hb1.size _⟩
  · have hm := Bp.fits_n hf
    obtain ⟨q, rfl⟩ := Int.eq_ofNat_of_zero_le (show 0 ≤ m by omega)
    have Hf := Lib.hid hf
    go_enter Try.func19, Try.ntmps19
    go_wp2_with (go_at_call 32; refine (l3Fits_any A n c _ ps _ h hn).mono ?_; rintro e w1 ⟨rfl, hb1⟩)
    have hs1 := hb1.size
    refine (sPairs_any A n c q ps _ ((h.below hb1).mono hs1) hn Hf.out).mono ?_
    rintro e w2 ⟨g, c2, rfl, hc2, hg2, hown, hb2⟩
    have hs2 := hb2.size
    go_wp2_with fail
    refine (sPaths_any g q c2 ps _ hown.view (by omega) (by omega) hc2).mono ?_
    rintro e w3 ⟨g3, c3, rfl, hc3, hg3, hown3, hb3⟩
    go_wp2_with fail
    go_ret2
    exact ⟨_, q, c3, rfl, hc3, by omega, by rw [tres_yes rfl]; exact hown3.base (by omega), hb1.trans ((hb2.trans (hb3.mono hs2)).mono hs1)⟩
end Go.Proofs.Ytgcihnhljeahjaa
