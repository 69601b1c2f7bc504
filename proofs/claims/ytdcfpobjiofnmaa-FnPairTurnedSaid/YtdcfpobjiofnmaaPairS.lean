/-
  The walks of the reference's counts of pairs: BallotPrefers, l13Counts; PairCounts of both.
-/
import Derived.Test.YtdcfpobjiofnmaaPairI
import Derived.Maps.AppendAt
namespace Go.Proofs.Ytdcfpobjiofnmaa
set_option linter.unusedVariables false
open Go.RowKit

theorem tb_lit {w0 w : World} (h : w0.heap.size ≤ w.heap.size) : OwnTb (w.alloc (.cells #[] 31)) w0.heap.size (.slice (some ⟨w.heap.size, 0, none⟩) 0 0) 0 [] :=
  ⟨[], rfl, own_base (World.ownsRow_lit w #[] 0 (Nat.le_refl _) (by decide) rfl) h, Subs.nil ..⟩
/-- a table stays where a new row is made and written -/
theorem TbAt.past {w w2 wi : World} {bs : Nat} {v : Value} {n : Nat} {rows : List (List Int)} {vs : List Value} {G : Nat} (h : TbAt w bs v n rows vs) (hb : Below w.heap.size w w2) (hg : w2.grownBy wi (some G)) (hG : w.heap.size ≤ G) :
    TbAt wi bs v n rows vs ∧ v.ownBlock ≠ some G ∧ ∀ i, i < rows.length → (vs.getD i undef).ownBlock ≠ some G := by
  obtain ⟨h1, h2, h3⟩ := h
  have hv : v.ownBlock ≠ some G := fun e => by have := (h2.lt G e).2; omega
  have hvs : ∀ i, i < rows.length → (vs.getD i undef).ownBlock ≠ some G := fun i hi e => by
    obtain ⟨x, e1, _, e2⟩ := (h3.sub i (by simpa using hi)).block
    rw [e1] at e
    injection e with e
    omega
  exact ⟨⟨h1, (own_keep h2 hb).kept hg (.inr hv), (h3.keep hb).far hg (fun i hi e => hvs i (by simpa using hi) e.symm)⟩, hv, hvs⟩

set_option maxRecDepth 100000 in
set_option maxHeartbeats 400000 in
theorem sBallotPrefers_val (A : Option Addr) (n c : Nat) (x y : Int) (b : List Int) (v : Bool) (hv : Bp.prefers b x y = v) (B : Nat) (w : World) (h : Ints w B A n b) (hn : n ≤ 1048576) (hnc : n ≤ c) (hb : Bp.bval b 5 = true) :
    Calls Try.prog 64 #[.slice A n c, .int .i64 x, .int .i64 y] w fun e w' => e = .returned (.bool v) ∧ Drawn w w' := by
  have hl := Lib.hid h.1
  have hcall := sBallotValid_any A n c 5 b B w h (by omega) hnc
  rw [hb] at hcall
  have Hcall := Lib.hid hcall
  have Hv := Lib.hid hv
  clear hcall hb hv
  by_cases hxy : x = y
  · have d1 : (x == y) = true := by simpa using hxy
    have Hs := Lib.hid (Bp.prefers_self b hxy)
    clear hxy
    go_enter Try.func64, Try.ntmps64
    go_wp2_with (go_at_call 61; refine Hcall.out.mono ?_; rintro e w1 ⟨rfl, hd1⟩)
    go_ret
    exact ⟨ret_bool (by rw [← Hv.out, Hs.out]), hd1⟩
  · have d1 : (x == y) = false := by simpa using hxy
    have Hxy := Lib.hid hxy
    clear hxy
    go_enter Try.func64, Try.ntmps64
    go_wp2_with (go_at_call 61; refine Hcall.out.mono ?_; rintro e w1 ⟨rfl, hd1⟩)
    have h1 := h.below (hd1.below B)
    go_loop [7] (fun i => ∃ k : Nat, k ≤ n ∧ i = .int .i64 k ∧ Hid (∀ j, j < k → b.getD j 0 ≠ x ∧ b.getD j 0 ≠ y)) (fun i => n - (intOf i).toNat)
    case atStart => exact ⟨0, Nat.zero_le _, rfl, fun j hj => absurd hj (by omega)⟩
    case round =>
      obtain ⟨k, hk, rfl, hq⟩ := hrel
      by_cases hlt : k < n
      · obtain ⟨g, o, z, rfl, _, hc, hz⟩ := h1.at hlt
        have i1 : (0 : Int) ≤ (k : Int) := by omega
        have i2 : (k : Int) < (n : Int) := by omega
        by_cases hzx : z = x
        · have d2 : (z == x) = true := by simpa using hzx
          have He := Lib.hid (Bp.prefers_x (b := b) (x := x) (y := y) (k := k) (by rw [hl.out]; exact hlt) Hxy.out (by rw [hz.out]; exact hzx) hq.out)
          clear hzx
          go_wp2_with fail
          go_ret
          exact ⟨ret_bool (by rw [← Hv.out, He.out]), hd1⟩
        · have d2 : (z == x) = false := by simpa using hzx
          by_cases hzy : z = y
          · have d3 : (z == y) = true := by simpa using hzy
            have He := Lib.hid (Bp.prefers_y (b := b) (x := x) (y := y) (k := k) (by rw [hl.out]; exact hlt) Hxy.out (by rw [hz.out]; exact hzy) hq.out)
            clear hzx hzy
            go_wp2_with fail
            go_ret
            exact ⟨ret_bool (by rw [← Hv.out, He.out]), hd1⟩
          · have d3 : (z == y) = false := by simpa using hzy
            have Hzx := Lib.hid hzx
            have Hzy := Lib.hid hzy
            clear hzx hzy
            go_wp2_with fail
            go_round
            case rel => exact ⟨k + 1, by omega, by go_num, fun j hj => by
              by_cases hj' : j = k
              · subst hj'; rw [hz.out]; exact ⟨Hzx.out, Hzy.out⟩
              · exact hq.out j (by omega)⟩
            case measure => simp [intOf]; omega
      · have He := Lib.hid (Bp.prefers_none (b := b) (x := x) (y := y) (fun j hj => (hq.out j (by rw [hl.out] at hj; omega)).1))
        go_wp2_with fail
        go_ret
        exact ⟨ret_bool (by rw [← Hv.out, He.out]), hd1⟩

set_option maxRecDepth 100000 in
set_option maxHeartbeats 4000000 in
theorem sPairs_any (A : Option Addr) (n c m : Nat) (ps : List Bp.Pile) (w : World) (h : Piles w w.heap.size A n ps) (hn : n ≤ 1048576) (hfit : Bp.fits ps m = true) :
    Calls Try.prog 31 #[.slice A n c, .int .i64 m] w (TabbedI m (Bp.pairs ps m) w) := by
  have hl := Lib.hid h.1.1
  have Hfit := Lib.hid hfit
  obtain ⟨m1, m5⟩ := Bp.fits_n hfit
  have hlen := Bp.fits_len hfit
  rw [hl.out] at hlen
  clear hfit
  obtain ⟨i0, hi0, hz0, hz1, hz2⟩ := info_parts int_info
  obtain ⟨j0, hj0, hy0, hy1, hy2⟩ := info_parts row_info
  obtain ⟨W, hW⟩ : ∃ W, w.heap.size = W := ⟨_, rfl⟩
  have htb := tb_lit (Nat.le_refl w.heap.size)
  have hb1 : Below w.heap.size w (w.alloc (.cells #[] 31)) := (Below.refl _ _).alloc (Nat.le_refl _) _
  go_enter Try.func31, Try.ntmps31
  go_wp2_with fail
  obtain ⟨w1, hw1⟩ : ∃ w1, w.alloc (.cells #[] 31) = w1 := ⟨_, rfl⟩
  rw [hw1] at htb hb1 ⊢
  rw [hW] at htb hb1 h
  have hpW := h
  clear hw1
  go_loopw [5, 6] (fun v i wr => ∃ (x : Nat) (A3 : Option Addr) (c3 : Nat), x ≤ m ∧ v = .slice A3 x c3 ∧ x ≤ c3 ∧ i = .int .i64 x ∧ OwnTb wr W (.slice A3 x c3) x (Bp.tabTo m (fun x y => Bp.pref ps x y) x) ∧ Below W w wr) (fun _ i _ => m - (intOf i).toNat)
  case atStart => exact ⟨0, _, 0, Nat.zero_le _, rfl, Nat.le_refl _, rfl, htb, hb1⟩
  case round =>
    obtain ⟨x, A3, c3, hx, rfl, hxc, rfl, ⟨vs, hown⟩, hb⟩ := hrel
    clear htb hb1
    have hz := hb.size
    obtain ⟨wo, rfl⟩ : ∃ wo : World, wo = wr := ⟨_, rfl⟩
    obtain ⟨G, hG⟩ : ∃ G, wo.heap.size = G := ⟨_, rfl⟩
    by_cases hlt : x < m
    · go_wp2_with (at_make; refine wpList_make_full _ rfl (.tmp 18) (.tmp 18) 31 rfl wo.heap.size 3 i0 _ 1 Try.underlying31 hi0 hz0 hz1 .i64 .i64 m m m rfl rfl rfl rfl (by rw [hz2]; omega) (by unfold maxLen; omega) (Nat.le_refl _) ?_; intro w2 hown2 hg2)
      have hb2 : Below wo.heap.size wo w2 := (Below.refl _ _).grown hg2 (Nat.le_refl _) (by simp)
      have ownr := made_own hown2
      have hpast := fun wi hg => TbAt.past (wi := wi) hown hb2 hg (Nat.le_refl _)
      rw [hG] at ownr hpast
      have hGl := (ownr.row.lt _ rfl).2
      have hWG : W ≤ G := by omega
      have hB := hb.trans (hb2.mono (by omega))
      have hs2 := hb2.size
      rw [hG] at hs2
      have Hpast := Lib.hid hpast
      clear hown2 hg2 hb2 hpast hb hown hz
      go_loopw [8] (fun i wi => ∃ k : Nat, k ≤ n ∧ i = .int .i64 k ∧ Own wi G (.slice (some ⟨G, 0, none⟩) m m) m (Bp.tab m fun j => Bp.prefTo ps x j k) ∧ w2.grownBy wi (some G)) (fun i _ => n - (intOf i).toNat)
      case atStart => exact ⟨0, Nat.zero_le _, rfl, by rw [← show List.replicate m (0 : Int) = Bp.tab m (fun j => Bp.prefTo ps x j 0) by rw [Bp.tab_zero]; exact Bp.tab_congr (fun j _ => rfl)]; exact ownr, World.grownBy.refl _ _⟩
      case round =>
        obtain ⟨k, hk, rfl, ownk, hgk⟩ := hrel
        clear ownr
        have hBk : Below W w wr := hB.trans (below_only hgk (by omega) (by omega))
        have hszk := hgk.size
        obtain ⟨wk, rfl⟩ : ∃ wk : World, wk = wr := ⟨_, rfl⟩
        by_cases hkl : k < n
        · have hr := hpW.below hBk
          obtain ⟨g, o, s, v, rfl, hgl, hc1, hc2, hss, hp⟩ := hr.at hkl
          have i3 : (0 : Int) ≤ (k : Int) := by omega
          have i4 : (k : Int) < (n : Int) := by omega
          have hkl' : k < ps.length := by rw [hl.out]; exact hkl
          have hv01 := Bp.fits_many_at Hfit.out k hkl'
          rw [hp.out] at hv01
          simp only at hv01
          have hpb := fun y => Bp.prefTo_bd (ps := ps) x y (Bp.fits_val Hfit.out) k (by omega)
          have hstep : ∀ y, Bp.prefTo ps x y (k + 1) = if Bp.prefers (Bp.bal s) x y then Bp.prefTo ps x y k + v else Bp.prefTo ps x y k := fun y => by
            rw [Bp.prefTo, hp.out]
          have Hstep := Lib.hid hstep
          have Hpb := Lib.hid hpb
          clear hkl' hstep hpb
          go_wp2_with fail
          refine (sBallotParse_any s _ hss).mono ?_
          rintro e w4 ⟨A2, n2, c2, rfl, hnc2, hownb, hb4⟩
          have hs4 := hb4.size
          have hgk4 : w2.grownBy w4 (some G) := only_keep hgk hb4
          have ownk4 := ownk.keep hb4
          have hbb : G < wk.heap.size := by omega
          have hl2 := Lib.hid hownb.len
          have hn5 : n2 ≤ 5 := by have := Bp.bal_len s; rw [hl2.out] at this; exact this
          clear hr hb4 ownk hgk
          go_wp2_with fail
          go_loopw [11] (fun i wi => ∃ y : Nat, y ≤ m ∧ i = .int .i64 y ∧ Own wi G (.slice (some ⟨G, 0, none⟩) m m) m (Bp.tab m fun j => if j < y then Bp.prefTo ps x j (k + 1) else Bp.prefTo ps x j k) ∧ w4.grownBy wi (some G)) (fun i _ => m - (intOf i).toNat)
          case atStart => exact ⟨0, Nat.zero_le _, rfl, by rw [← Bp.tab_congr (f := fun j => Bp.prefTo ps x j k) (fun j _ => by simp)]; exact ownk4, World.grownBy.refl _ _⟩
          case round =>
            obtain ⟨y, hy, rfl, owny, hgy⟩ := hrel
            clear ownk4
            by_cases hyl : y < m
            · have i5 : (0 : Int) ≤ (y : Int) := by omega
              have i6 : (y : Int) < (m : Int) := by omega
              have ownby := hownb.only hgy hbb
              have hstepy := Hstep.out y
              have hpby := Hpb.out y
              cases hpf : Bp.prefers (Bp.bal s) x y
              · have hcall := sBallotPrefers_val A2 n2 c2 x y (Bp.bal s) false hpf _ wr ownby.ints (by omega) hnc2 (Bp.bal_val s)
                rw [hpf, if_neg (by simp)] at hstepy
                have He := Lib.hid (show Bp.tab m (fun j => if j < y then Bp.prefTo ps x j (k + 1) else Bp.prefTo ps x j k) = Bp.tab m (fun j => if j < y + 1 then Bp.prefTo ps x j (k + 1) else Bp.prefTo ps x j k) from Bp.tab_congr (fun j _ => by
                  rcases Nat.lt_trichotomy j y with h1 | h1 | h1
                  · rw [if_pos h1, if_pos (by omega)]
                  · subst h1
                    rw [if_neg (by omega), if_pos (by omega), hstepy]
                  · rw [if_neg (by omega), if_neg (by omega)]))
                have Hcall := Lib.hid hcall
                clear hpf hcall hstepy
                go_wp2_with fail
                refine Hcall.out.mono ?_
                rintro e w5 ⟨rfl, hd5⟩
                obtain ⟨q5, rfl⟩ := hd5
                go_wp2_with fail
                go_roundw
                case rel => exact ⟨y + 1, by omega, by go_num, by rw [← He.out]; exact owny.keep (Drawn.below ⟨q5, rfl⟩ _), only_drewN hgy q5⟩
                case measure => simp [intOf]; omega
              · have hcall := sBallotPrefers_val A2 n2 c2 x y (Bp.bal s) true hpf _ wr ownby.ints (by omega) hnc2 (Bp.bal_val s)
                rw [hpf, if_pos rfl] at hstepy
                have Hcall := Lib.hid hcall
                clear hpf hcall
                go_wp2_with fail
                refine Hcall.out.mono ?_
                rintro e w5 ⟨rfl, hd5⟩
                obtain ⟨q5, rfl⟩ := hd5
                have owny5 : Own (wr.drewN q5) G (.slice (some ⟨G, 0, none⟩) m m) m (Bp.tab m fun j => if j < y then Bp.prefTo ps x j (k + 1) else Bp.prefTo ps x j k) := owny.keep (Drawn.below ⟨q5, rfl⟩ _)
                have hgy5 := only_drewN hgy q5
                obtain ⟨w5, hw5⟩ : ∃ w5, wr.drewN q5 = w5 := ⟨_, rfl⟩
                rw [hw5] at owny5 hgy5 ⊢
                have hgk5 := only_trans hgk4 hgy5
                have hB5 : Below W w w5 := hB.trans (below_only hgk5 (by omega) (by omega))
                obtain ⟨g', o', s', v', hA', _, hc1', hc2', _, hp'⟩ := (hpW.below hB5).at hkl
                injection hA' with hA'; injection hA' with e3 e4
                subst e3; subst e4
                have hvv : v' = v := by have := hp'.out; rw [hp.out] at this; exact (congrArg Prod.snd this).symm
                subst hvv
                obtain ⟨ha1, ha2⟩ := own_cell owny5 y hyl
                rw [Bp.tab_at _ _ hyl, if_neg (by omega)] at ha1
                have hset := own_only_set owny5 y (Bp.prefTo ps x y k + v')
                rw [Bp.tab_set (f := fun j => if j < y then Bp.prefTo ps x j (k + 1) else Bp.prefTo ps x j k) (g := fun j => if j < y + 1 then Bp.prefTo ps x j (k + 1) else Bp.prefTo ps x j k) (i := y) (v := Bp.prefTo ps x y k + v') hyl (by rw [if_pos (by omega), hstepy]) (fun j _ hj => by
                  by_cases h1 : j < y
                  · rw [if_pos h1, if_pos (by omega)]
                  · rw [if_neg h1, if_neg (by omega)])] at hset
                have hgn : w4.grownBy (w5.setCell ⟨G, y, none⟩ (.int .i64 (Bp.prefTo ps x y k + v'))) (some G) := only_setCell hgy5 (.inl rfl) _
                obtain ⟨z, hzz⟩ : ∃ z, Bp.prefTo ps x y k = z := ⟨_, rfl⟩
                rw [hzz] at ha1 hpby hset hgn
                have hG5 := (owny5.row.lt G rfl).2
                have Hset := Lib.hid hset.1
                have Hgn := Lib.hid hgn
                clear hzz hset hgn owny5 hgy5 hgk5 hw5 owny hstepy hp' hc1'
                go_wp2_with fail
                refine wp_region_still_tail 13 (by kernel_rfl) (by kernel_rfl) ?_
                simp only [List.take_succ_cons, List.take_zero, List.drop_succ_cons, List.drop_zero]
                repeat still_step
                refine wpStill_nil ?_
                change wpList _ _ _ _ _ w5.drew
                go_wp2_with fail
                go_roundw
                case rel => exact ⟨y + 1, by omega, by go_num, Hset.out, only_drewN Hgn.out 1⟩
                case measure => simp [intOf]; omega
            · have hym : y = m := by omega
              have He := Lib.hid (show Bp.tab m (fun j => if j < y then Bp.prefTo ps x j (k + 1) else Bp.prefTo ps x j k) = Bp.tab m (fun j => Bp.prefTo ps x j (k + 1)) from Bp.tab_congr (fun j hj => by rw [if_pos (by omega)]))
              clear hym
              go_wp2_with fail
              go_roundw
              case rel => exact ⟨k + 1, by omega, by go_num, by rw [← He.out]; exact owny, only_trans hgk4 hgy⟩
              case measure => simp [intOf]; omega
        · have hkn : k = n := by omega
          obtain ⟨hat, hv, hvs⟩ := Hpast.out wk hgk
          have hrow := hat.2.1
          have He := Lib.hid (show Bp.tab m (fun j => Bp.prefTo ps x j k) = Bp.tab m (fun j => Bp.pref ps x j) from Bp.tab_congr (fun j _ => by rw [hkn]; unfold Bp.pref; rw [hl.out]))
          have ownW : Own wk W (.slice (some ⟨G, 0, none⟩) m m) m (Bp.tab m fun j => Bp.prefTo ps x j k) := ownk.base hWG
          have hal : ∀ o : Obj, Below wk.heap.size wk (wk.alloc o) := fun o => (Below.refl _ _).alloc (Nat.le_refl _) o
          have hsnoc := fun o w1 v' hg hat' hown' => OwnTb.snoc (A := none) (c := 0) (w := wk.alloc o) (w1 := w1) (v' := v') ⟨hat.1, own_keep hat.2.1 (hal o), hat.2.2.keep (hal o)⟩ (Bp.tab_len _ _) (ownW.keep (hal o)) hv hvs hg hat' hown'
          have Hsnoc := Lib.hid hsnoc
          have hblk : ∀ b, (Value.slice A3 x c3).ownBlock = some b → W ≤ b := fun b e => (hrow.lt b e).1
          have Hblk := Lib.hid hblk
          clear hsnoc hkn hat hblk
          go_wp2_with (at_builtin; refine wpList_append_own_at _ rfl (.tmp 57) (.tmp 59) 44 rfl W 31 j0 _ 1 24 Try.underlying44 hj0 hy0 hy1 hy2 rfl (by decide) (.slice A3 x c3) x _ rfl (hrow.alloc _) ⟨wk.heap.size, 0, none⟩ 1 1 [.slice (some ⟨G, 0, none⟩) m m] rfl rfl (cell_one_new _ _ _) (by simp [Value.oneCell']) (by unfold maxLen; omega) (by omega) (by simp; omega) ?_; intro v1 w6 hown6 hg6 _ hat6; obtain ⟨A4, c4, rfl, hkc1⟩ := own_slice hown6)
          go_roundw
          case rel => exact ⟨x + 1, A4, c4, by omega, by go_num, by omega, by go_num, by rw [Bp.tabTo_succ, ← He.out]; exact Hsnoc.out _ _ _ hg6 hat6 hown6, (hBk.trans ((hal _).mono (by omega))).grown hg6 (by simp; omega) (fun b e => Hblk.out b e)⟩
          case measure => simp [intOf]; omega
    · have hxm : x = m := by omega
      have hfin : OwnTb wo W (.slice A3 m c3) m (Bp.pairs ps m) := by
        have : OwnTb wo W (.slice A3 x c3) x (Bp.tabTo m (fun x y => Bp.pref ps x y) x) := ⟨vs, hown⟩
        rw [hxm] at this
        exact this
      have hmc : m ≤ c3 := by omega
      have Hfin := Lib.hid hfin
      have HW := Lib.hid hW
      obtain ⟨g3, hA3, hg3⟩ : ∃ g, A3 = some ⟨g, 0, none⟩ ∧ W ≤ g := by
        rcases hown.2.1.2 with ⟨e, h0⟩ | ⟨g, cap, cur, e, hbg, _⟩
        · omega
        · injection e with e _ _
          exact ⟨g, e, hbg⟩
      subst hA3
      subst hxm
      clear hfin hown
      go_wp2_with fail
      go_ret
      exact ⟨g3, c3, rfl, hmc, by rw [HW.out]; exact hg3, by rw [HW.out]; exact Hfin.out, by rw [HW.out]; exact hb⟩

end Go.Proofs.Ytdcfpobjiofnmaa
