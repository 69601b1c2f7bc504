/-
  The walk of the reference's PairTop.
-/
import Derived.Test.YtgcihnhljeahjaaReach
namespace Go.Proofs.Ytgcihnhljeahjaa
set_option linter.unusedVariables false
open Go.RowKit

set_option maxRecDepth 100000 in
set_option maxHeartbeats 4000000 in
theorem sPairTop_any (A : Option Addr) (n c : Nat) (mi : Int) (ps : List Bp.Pile) (w : World) (h : Piles w w.heap.size A n ps) (hn : n ≤ 1048576) :
    Calls Try.prog 9 #[.slice A n c, .int .i64 mi] w (ListRes (Bp.fits ps mi) (Bp.tops ps mi.toNat) w) := by
  have hal : Below w.heap.size w (w.alloc (.cells #[] 24)) := (Below.refl _ _).alloc (Nat.le_refl _) _
  have hbl : Below w.heap.size w (w.alloc (.cells #[] 3)) := (Below.refl _ _).alloc (Nat.le_refl _) _
  have hlit := int_lit (Nat.le_refl w.heap.size)
  obtain ⟨wl, hwl⟩ : ∃ wl, w.alloc (.cells #[] 3) = wl := ⟨_, rfl⟩
  rw [hwl] at hbl hlit
  have hsl := hbl.size
  have hpl := (h.below hbl).mono hsl
  cases hf : Bp.fits ps mi
  · have Hf := Lib.hid hf
    go_enter Try.func9, Try.ntmps9
    go_wp2_with fail
    refine (l3Fits_any A n c mi ps wl hpl hn).mono ?_
    rintro e w1 ⟨rfl, hb1⟩
    go_wp2_with fail
    go_ret
    exact ⟨_, 0, 0, rfl, Nat.le_refl _, by omega, by rw [cres_no rfl]; exact hlit.keep hb1, hbl.trans (hb1.mono hsl)⟩
  · have hm := Bp.fits_n hf
    obtain ⟨m, rfl⟩ := Int.eq_ofNat_of_zero_le (show 0 ≤ mi by omega)
    have m5 : m ≤ 5 := by omega
    have m1 : 1 ≤ m := by omega
    have Hf := Lib.hid hf
    obtain ⟨i0, hi0, hz0, hz1, hz2⟩ := info_parts int_info
    go_enter Try.func9, Try.ntmps9
    go_wp2_with fail
    refine (l3Fits_any A n c _ ps wl hpl hn).mono ?_
    rintro e w1 ⟨rfl, hb1⟩
    have hs1 := hb1.size
    have hlit1 := hlit.keep hb1
    have hB1 := hbl.trans (hb1.mono hsl)
    have hp1 := (hpl.below hb1).mono hs1
    clear hlit hb1 hpl hal
    go_wp2_with fail
    refine (sPairs_any A n c m ps _ hp1 hn Hf.out).mono ?_
    rintro e w2 ⟨g, c2, rfl, hc2, hg2, hownt, hb2⟩
    have hs2 := hb2.size
    have hlit2 := hlit1.keep hb2
    have hB2 := hB1.trans (hb2.mono (by omega))
    have hv2 := hownt.view
    clear hlit1 hb2 hownt hp1
    go_wp2_with fail
    refine (sReach_any g m c2 ps _ hv2 m1 m5 hc2).mono ?_
    rintro e w0 ⟨gc, c3, rfl, hc3, hg3, hownt, hb3⟩
    have hs3 := hb3.size
    have hlit3 := hlit2.keep hb3
    have hB0 := hB2.trans (hb3.mono (by omega))
    obtain ⟨L, hL⟩ : ∃ L, w2.heap.size = L := ⟨_, rfl⟩
    obtain ⟨W, hW⟩ : ∃ W, w.heap.size = W := ⟨_, rfl⟩
    have own0 : Own w0 W (.slice (some ⟨w.heap.size, 0, none⟩) 0 0) 0 (Bp.picks (Bp.isTop ps m) 0) := by rw [← hW]; exact hlit3
    rw [hL] at hownt hs3
    rw [hW] at hB0 own0 hsl
    have hWL : W < L := by
      have : wl.heap.size = w.heap.size + 1 := by rw [← hwl]; simp
      omega
    have hfr0 := Far.refl L w0.heap.size w0
    have hbk0 : ∀ b, (Value.slice (some ⟨W, 0, none⟩) 0 0).ownBlock = some b → b < L ∨ w0.heap.size ≤ b := fun b e => by
      have e2 : W = b := Option.some.inj e
      omega
    have hsz0 := Nat.le_refl w0.heap.size
    have Hownt := Lib.hid hownt
    clear hlit2 hlit3 hv2 hb3 hownt hf
    go_wp2_with fail
    go_loopw [5, 7] (fun v i wr => ∃ (x : Nat) (A3 : Option Addr) (k3 c3 : Nat), x ≤ m ∧ v = .slice A3 k3 c3 ∧ k3 ≤ c3 ∧ i = .int .i64 x ∧ k3 ≤ x ∧ Own wr W (.slice A3 k3 c3) k3 (Bp.picks (Bp.isTop ps m) x) ∧ (∀ b, (Value.slice A3 k3 c3).ownBlock = some b → b < L ∨ w0.heap.size ≤ b) ∧ Far L w0.heap.size w0 wr ∧ w0.heap.size ≤ wr.heap.size ∧ Below W w wr) (fun _ i _ => m - (intOf i).toNat)
    case atStart => exact ⟨0, _, 0, 0, Nat.zero_le _, rfl, Nat.le_refl _, rfl, Nat.le_refl _, own0, hbk0, hfr0, hsz0, hB0⟩
    case round =>
      obtain ⟨x, A3, k3, c3, hx, rfl, hkc, rfl, hkx, hown, hbk, hfr, hsz, hb⟩ := hrel
      clear own0 hbk0 hfr0 hsz0 hB0
      have hz := hb.size
      obtain ⟨wo, rfl⟩ : ∃ wo : World, wo = wr := ⟨_, rfl⟩
      by_cases hxl : x < m
      · have i1 : (0 : Int) ≤ (x : Int) := by omega
        have i2 : (x : Int) < (m : Int) := by omega
        go_wp2_with fail
        go_loopw [8, 9] (fun b i wi => ∃ y : Nat, y ≤ m ∧ i = .int .i64 y ∧ b = .bool (Bp.allTo (Bp.reachF ps m x) y) ∧ Drawn wo wi) (fun _ i _ => m - (intOf i).toNat)
        case atStart => exact ⟨0, Nat.zero_le _, rfl, rfl, Drawn.refl _⟩
        case round =>
          obtain ⟨y, hy, rfl, rfl, hd⟩ := hrel
          by_cases hyl : y < m
          · have i3 : (0 : Int) ≤ (y : Int) := by omega
            have i4 : (y : Int) < (m : Int) := by omega
            have hvy := (Hownt.out.far (hfr.drawn hd)).view
            obtain ⟨ga, oa, ca, a1, ar⟩ := hvy.line rfl hxl
            have a2 := ar y hyl
            simp only [Nat.zero_add] at a1
            have Hn := Lib.hid (show Bp.allTo (Bp.reachF ps m x) (y + 1) = (Bp.allTo (Bp.reachF ps m x) y && Bp.reachF ps m x y) from rfl)
            obtain ⟨s, hs⟩ : ∃ s, Bp.allTo (Bp.reachF ps m x) y = s := ⟨_, rfl⟩
            obtain ⟨v1, hv1⟩ : ∃ z, Bp.reachF ps m x y = z := ⟨_, rfl⟩
            rw [hs, hv1] at Hn
            rw [hv1] at a2
            rw [hs]
            clear ar hs hv1
            cases s
            · go_wp2_with fail
              go_roundw
              case rel => exact ⟨y + 1, by omega, by go_num, by rw [Hn.out]; rfl, hd⟩
              case measure => simp [intOf]; omega
            · go_wp2_with fail
              go_roundw
              case rel => exact ⟨y + 1, by omega, by go_num, by rw [Hn.out, Bool.true_and], hd⟩
              case measure => simp [intOf]; omega
          · have hym : y = m := by omega
            have hbd := hd.below wo.heap.size
            have hsd := hbd.size
            have hown2 : Own wr W (.slice A3 k3 c3) k3 (Bp.picks (Bp.isTop ps m) x) := hown.keep hbd
            have hB2 := hb.trans (hd.below W)
            have hfr2 := hfr.drawn hd
            have hz2' := hB2.size
            have Hbk := Lib.hid hbk
            have Hp := Lib.hid (show Bp.picks (Bp.isTop ps m) (x + 1) = if Bp.isTop ps m x then Bp.picks (Bp.isTop ps m) x ++ [(x : Int)] else Bp.picks (Bp.isTop ps m) x from rfl)
            obtain ⟨s, hs⟩ : ∃ s, Bp.allTo (Bp.reachF ps m x) y = s := ⟨_, rfl⟩
            have hs2 : Bp.isTop ps m x = s := by rw [← hs, hym]; rfl
            rw [hs2] at Hp
            rw [hs]
            clear hs hs2 hym hown
            cases s
            · go_wp2_with fail
              go_roundw
              case rel => exact ⟨x + 1, A3, k3, c3, by omega, by go_num, by omega, by go_num, by omega, by rw [Hp.out]; exact hown2, hbk, hfr2, by omega, hB2⟩
              case measure => simp [intOf]; omega
            · go_wp2_with (at_builtin; refine wpList_append_own_at _ rfl (.tmp 41) (.tmp 43) 24 rfl W 3 i0 _ 1 8 Try.underlying24 hi0 hz0 hz1 hz2 rfl (by decide) (.slice A3 k3 c3) k3 _ rfl (hown2.row.alloc _) ⟨wr.heap.size, 0, none⟩ 1 1 [.int .i64 (x : Int)] rfl rfl (cell_one_new _ _ _) (by simp [Value.oneCell']) (by unfold maxLen; omega) (by omega) (by simp; omega) ?_; intro v1 w6 hown6 hg6 _ hat6; obtain ⟨A4, c4, rfl, hkc1⟩ := own_slice hown6)
              go_roundw
              case rel => exact ⟨x + 1, A4, k3 + 1, c4, by omega, by go_num, by omega, by go_num, by omega, by rw [Hp.out, if_pos rfl]; unfold Own; rw [List.map_append]; exact hown6, (fun b e => by rcases hat6 with h6 | h6; (rw [h6] at e; exact Hbk.out b e); (rw [h6] at e; have := Option.some.inj e; simp at this; omega)), (hfr2.alloc (by omega) _).grown hg6 (by simp; omega) (fun b e => Hbk.out b e), by (have := hg6.size; simp at this; omega), (hB2.alloc (by omega) _).grown hg6 (by simp; omega) (fun b e => (hown2.row.lt b e).1)⟩
              case measure => simp [intOf]; omega
      · have hxm : x = m := by omega
        subst hxm
        have HW := Lib.hid hW
        go_wp2_with fail
        go_ret
        exact ⟨A3, k3, c3, rfl, hkc, by omega, by rw [cres_yes rfl, HW.out]; exact hown, by rw [HW.out]; exact hb⟩
end Go.Proofs.Ytgcihnhljeahjaa
