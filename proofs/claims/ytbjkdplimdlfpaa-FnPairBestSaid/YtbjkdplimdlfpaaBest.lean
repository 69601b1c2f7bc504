/-
  The walks of PairBest, of the program and of the reference.
-/
import Derived.Test.YtbjkdplimdlfpaaPathsS
import Derived.Maps.AppendAt
import Derived.Test.YtbjkdplimdlfpaaPicksPlain
import Derived.Test.YtbjkdplimdlfpaaCountRes
namespace Go.Proofs.Ytbjkdplimdlfpaa
set_option linter.unusedVariables false
open Go.RowKit

theorem TabV.row_of {w : World} {B n : Nat} {A : Option Addr} {g o : Nat} {f : Nat → Nat → Int} (h : TabV w B A n (Bp.tabs n f)) (hA : A = some ⟨g, o, none⟩) {x : Nat} (hx : x < n) :
    ∃ g' o' c, w.cell? ⟨g, o + x, none⟩ = some (.slice (some ⟨g', o', none⟩) n c) ∧ ∀ y, y < n → w.cell? ⟨g', o' + y, none⟩ = some (.int .i64 (f x y)) := by
  have hm : ((Bp.tabs n f).getD x []).length = n := by rw [Bp.tabs_at _ _ hx, Bp.tab_len]
  obtain ⟨g', o', c, h1, _, _, _⟩ := h.get hA hx hm hx
  refine ⟨g', o', c, h1, fun y hy => ?_⟩
  obtain ⟨g2, o2, c2, h2, h3, _, _⟩ := h.get hA hx hm hy
  rw [h1] at h2
  injection h2 with h2
  injection h2 with h2 _ _
  injection h2 with h2
  injection h2 with e1 e2
  subst e1; subst e2
  rw [Bp.tabs_cell _ _ hx hy] at h3
  exact h3
/-- from lo on, below hi, nothing has changed -/
def Far (lo hi : Nat) (w w' : World) : Prop := w.heap.size ≤ w'.heap.size ∧ ∀ k, lo ≤ k → k < hi → w'.heap[k]? = w.heap[k]?
theorem Far.refl (lo hi : Nat) (w : World) : Far lo hi w w := ⟨Nat.le_refl _, fun _ _ _ => rfl⟩
theorem Far.drewN {lo hi : Nat} {w w' : World} (h : Far lo hi w w') (k : Nat) : Far lo hi w (w'.drewN k) := h
theorem Far.drawn {lo hi : Nat} {w a b : World} (h : Far lo hi w a) (hd : Drawn a b) : Far lo hi w b := by
  obtain ⟨k, rfl⟩ := hd
  exact h.drewN k
theorem Far.alloc {lo hi : Nat} {w w' : World} (h : Far lo hi w w') (hh : hi ≤ w'.heap.size) (o : Obj) : Far lo hi w (w'.alloc o) :=
  ⟨Nat.le_trans h.1 (by simp), fun k h1 h2 => (Below.heap_alloc w' o k (by omega)).trans (h.2 k h1 h2)⟩
theorem Far.grown {lo hi : Nat} {w a b : World} {row : Option Nat} (h : Far lo hi w a) (hg : a.grownBy b row) (hh : hi ≤ a.heap.size) (hr : ∀ x, row = some x → x < lo ∨ hi ≤ x) : Far lo hi w b :=
  ⟨Nat.le_trans h.1 hg.size, fun k h1 h2 => (hg.block k (by omega) (by
    intro e
    have := hr k e.symm
    omega)).trans (h.2 k h1 h2)⟩
theorem own_farlo {w w' : World} {lo : Nat} {e : TypeId} {sz : Nat} {v : Value} {n : Nat} {xs : List Value} (h : w.ownsRow lo e sz v n xs) (hf : Far lo w.heap.size w w') : w'.ownsRow lo e sz v n xs := by
  refine ⟨h.1, ?_⟩
  rcases h.2 with hn | ⟨g, cap, cur, rfl, hb, hgg, rest⟩
  · exact .inl hn
  · refine .inr ⟨g, cap, cur, rfl, hb, ?_, rest⟩
    rw [hf.2 g hb (Array.getElem?_eq_some_iff.1 hgg).1]
    exact hgg
theorem OwnTb.far {w w' : World} {lo : Nat} {v : Value} {n : Nat} {rows : List (List Int)} (h : OwnTb w lo v n rows) (hf : Far lo w.heap.size w w') : OwnTb w' lo v n rows := by
  obtain ⟨vs, h1, h2, h3⟩ := h
  exact ⟨vs, h1, own_farlo h2 hf, ⟨h3.len, fun i hi => ⟨own_farlo (h3.sub i hi).1 hf, (h3.sub i hi).2⟩, h3.own, h3.apart⟩⟩
/-- what a function of candidates leaves -/
def ListRes (ok : Bool) (zs : List Int) (w : World) (e : Ending) (w' : World) : Prop :=
  ∃ (A : Option Addr) (n c : Nat), e = .returned (.slice A n c) ∧ n ≤ c ∧ n ≤ 5 ∧ Own w' w.heap.size (.slice A n c) n (cres ok zs) ∧ Below w.heap.size w w'
theorem int_lit {w0 w : World} (h : w0.heap.size ≤ w.heap.size) : Own (w.alloc (.cells #[] 3)) w0.heap.size (.slice (some ⟨w.heap.size, 0, none⟩) 0 0) 0 [] := own_base (World.ownsRow_lit w #[] 0 (Nat.le_refl _) (by decide) rfl) h

set_option maxRecDepth 100000 in
set_option maxHeartbeats 4000000 in
theorem iPairBest_any (A : Option Addr) (n c : Nat) (mi : Int) (ps : List Bp.Pile) (w : World) (h : Piles w w.heap.size A n ps) (hn : n ≤ 1048576) (hnc : n ≤ c) :
    Calls Try.prog 23 #[.slice A n c, .int .i64 mi] w (ListRes (Bp.fits ps mi) (Bp.bests ps mi.toNat) w) := by
  cases hf : Bp.fits ps mi
  · have Hf := Lib.hid hf
    go_enter Try.func23, Try.ntmps23
    go_wp2_with (go_at_call 40; refine (pilesFit_any A n c mi ps _ h hn hnc).mono ?_; rintro e w1 ⟨rfl, hb1⟩)
    go_ret
    exact ⟨none, 0, 0, rfl, Nat.le_refl _, by omega, by rw [cres_no rfl]; exact Own.nil _ _, hb1⟩
  · have hm := Bp.fits_n hf
    obtain ⟨m, rfl⟩ := Int.eq_ofNat_of_zero_le (show 0 ≤ mi by omega)
    have m5 : m ≤ 5 := by omega
    have m1 : 1 ≤ m := by omega
    have Hf := Lib.hid hf
    obtain ⟨i0, hi0, hz0, hz1, hz2⟩ := info_parts int_info
    go_enter Try.func23, Try.ntmps23
    go_wp2_with (go_at_call 40; refine (pilesFit_any A n c _ ps _ h hn hnc).mono ?_; rintro e w1 ⟨rfl, hb1⟩)
    have hs1 := hb1.size
    refine (iPaths_any A n c m ps _ ((h.below hb1).mono hs1) hn Hf.out).mono ?_
    rintro e w0 ⟨gc, c2, rfl, hc2, hg2, hownt, hb2⟩
    have hv := hownt.view
    unfold Bp.paths at hv
    have hB0 := hb1.trans (hb2.mono hs1)
    have hs2 := hB0.size
    clear hownt hb1 hb2 hf
    obtain ⟨W, hW⟩ : ∃ W, w0.heap.size = W := ⟨_, rfl⟩
    have own0 : Own w0 W (.slice none 0 0) 0 (Bp.picks (Bp.isBest (Bp.pathF ps m) m) 0) := Own.nil _ _
    have hb00 : Below W w0 w0 := Below.refl _ _
    rw [hW] at hv hs2
    go_wp2_with fail
    go_loopw [6, 18] (fun v i wr => ∃ (x : Nat) (A3 : Option Addr) (k3 c3 : Nat), x ≤ m ∧ v = .slice A3 k3 c3 ∧ k3 ≤ c3 ∧ i = .int .i64 x ∧ k3 ≤ x ∧ Own wr W (.slice A3 k3 c3) k3 (Bp.picks (Bp.isBest (Bp.pathF ps m) m) x) ∧ Below W w0 wr) (fun _ i _ => m - (intOf i).toNat)
    case atStart => exact ⟨0, _, 0, 0, Nat.zero_le _, rfl, Nat.le_refl _, rfl, Nat.le_refl _, own0, hb00⟩
    case round =>
      obtain ⟨x, A3, k3, c3, hx, rfl, hkc, rfl, hkx, hown, hb⟩ := hrel
      clear own0 hb00
      have hz := hb.size
      obtain ⟨wo, rfl⟩ : ∃ wo : World, wo = wr := ⟨_, rfl⟩
      by_cases hxl : x < m
      · have i1 : (0 : Int) ≤ (x : Int) := by omega
        have i2 : (x : Int) < (m : Int) := by omega
        go_wp2_with fail
        go_loopw [8, 22] (fun b i wi => ∃ y : Nat, y ≤ m ∧ i = .int .i64 y ∧ b = .bool (Bp.allTo (fun j => decide (Bp.pathF ps m j x ≤ Bp.pathF ps m x j)) y) ∧ Drawn wo wi) (fun _ i _ => m - (intOf i).toNat)
        case atStart => exact ⟨0, Nat.zero_le _, rfl, rfl, Drawn.refl _⟩
        case round =>
          obtain ⟨y, hy, rfl, rfl, hd⟩ := hrel
          by_cases hyl : y < m
          · have i3 : (0 : Int) ≤ (y : Int) := by omega
            have i4 : (y : Int) < (m : Int) := by omega
            have hvy := hv.below (hb.trans (hd.below W))
            obtain ⟨ga, oa, ca, a1, ar⟩ := hvy.row_of rfl hxl
            obtain ⟨gb, ob, cb, b1, br⟩ := hvy.row_of rfl hyl
            have a2 := ar y hyl
            have b2 := br x hxl
            simp only [Nat.zero_add] at a1 b1
            have Hn := Lib.hid (show Bp.allTo (fun j => decide (Bp.pathF ps m j x ≤ Bp.pathF ps m x j)) (y + 1) = (Bp.allTo (fun j => decide (Bp.pathF ps m j x ≤ Bp.pathF ps m x j)) y && decide (Bp.pathF ps m y x ≤ Bp.pathF ps m x y)) from rfl)
            obtain ⟨s, hs⟩ : ∃ s, Bp.allTo (fun j => decide (Bp.pathF ps m j x ≤ Bp.pathF ps m x j)) y = s := ⟨_, rfl⟩
            obtain ⟨v1, hv1⟩ : ∃ z, Bp.pathF ps m x y = z := ⟨_, rfl⟩
            obtain ⟨v2, hv2⟩ : ∃ z, Bp.pathF ps m y x = z := ⟨_, rfl⟩
            rw [hs, hv1, hv2] at Hn
            rw [hv1] at a2
            rw [hv2] at b2
            rw [hs]
            clear ar br hs hv1 hv2
            cases s
            · go_wp2_with fail
              go_quiet (fail)
              go_wp2_with fail
              go_roundw
              case rel => exact ⟨y + 1, by omega, by go_num, by rw [Hn.out]; rfl, hd.drewN _⟩
              case measure => simp [intOf]; omega
            · go_wp2_with fail
              go_quiet (fail)
              go_wp2_with fail
              go_roundw
              case rel => exact ⟨y + 1, by omega, by go_num, by rw [Hn.out, Bool.true_and], hd.drewN _⟩
              case measure => simp [intOf]; omega
          · have hym : y = m := by omega
            have hbd := hd.below wo.heap.size
            have hsd := hbd.size
            have hown2 : Own wr W (.slice A3 k3 c3) k3 (Bp.picks (Bp.isBest (Bp.pathF ps m) m) x) := hown.keep hbd
            have hB2 := hb.trans (hd.below W)
            have Hp := Lib.hid (show Bp.picks (Bp.isBest (Bp.pathF ps m) m) (x + 1) = if Bp.isBest (Bp.pathF ps m) m x then Bp.picks (Bp.isBest (Bp.pathF ps m) m) x ++ [(x : Int)] else Bp.picks (Bp.isBest (Bp.pathF ps m) m) x from rfl)
            obtain ⟨s, hs⟩ : ∃ s, Bp.allTo (fun j => decide (Bp.pathF ps m j x ≤ Bp.pathF ps m x j)) y = s := ⟨_, rfl⟩
            have hs2 : Bp.isBest (Bp.pathF ps m) m x = s := by rw [← hs, hym]; rfl
            rw [hs2] at Hp
            rw [hs]
            clear hs hs2 hym hown
            cases s
            · go_wp2_with fail
              go_roundw
              case rel => exact ⟨x + 1, A3, k3, c3, by omega, by go_num, by omega, by go_num, by omega, by rw [Hp.out]; exact hown2, hB2⟩
              case measure => simp [intOf]; omega
            · go_wp2_with (at_builtin; refine wpList_append_own _ rfl (.tmp 45) (.tmp 47) 30 rfl W 3 i0 _ 1 8 Try.underlying30 hi0 hz0 hz1 hz2 rfl (by decide) (.slice A3 k3 c3) k3 _ rfl (hown2.row.alloc _) ⟨wr.heap.size, 0, none⟩ 1 1 [.int .i64 (x : Int)] rfl rfl (cell_one_new _ _ _) (by simp [Value.oneCell']) (by unfold maxLen; omega) (by omega) (by simp; omega) ?_; intro v1 w6 hown6 hg6 _; obtain ⟨A4, c4, rfl, hkc1⟩ := own_slice hown6)
              go_roundw
              case rel => exact ⟨x + 1, A4, k3 + 1, c4, by omega, by go_num, by omega, by go_num, by omega, by rw [Hp.out, if_pos rfl]; unfold Own; rw [List.map_append]; exact hown6, (hB2.alloc (by omega) _).grown hg6 (by simp; omega) (fun b e => (hown2.row.lt b e).1)⟩
              case measure => simp [intOf]; omega
      · have hxm : x = m := by omega
        subst hxm
        go_wp2_with fail
        go_ret
        exact ⟨A3, k3, c3, rfl, hkc, by omega, by rw [cres_yes rfl]; exact hown.base hs2, hB0.trans (hb.mono (by omega))⟩
set_option maxRecDepth 100000 in
set_option maxHeartbeats 4000000 in
theorem sPairBest_any (A : Option Addr) (n c : Nat) (mi : Int) (ps : List Bp.Pile) (w : World) (h : Piles w w.heap.size A n ps) (hn : n ≤ 1048576) :
    Calls Try.prog 24 #[.slice A n c, .int .i64 mi] w (ListRes (Bp.fits ps mi) (Bp.bests ps mi.toNat) w) := by
  have hal : Below w.heap.size w (w.alloc (.cells #[] 30)) := (Below.refl _ _).alloc (Nat.le_refl _) _
  have hbl : Below w.heap.size w (w.alloc (.cells #[] 3)) := (Below.refl _ _).alloc (Nat.le_refl _) _
  have hlit := int_lit (Nat.le_refl w.heap.size)
  obtain ⟨wl, hwl⟩ : ∃ wl, w.alloc (.cells #[] 3) = wl := ⟨_, rfl⟩
  rw [hwl] at hbl hlit
  have hsl := hbl.size
  have hpl := (h.below hbl).mono hsl
  cases hf : Bp.fits ps mi
  · have Hf := Lib.hid hf
    go_enter Try.func24, Try.ntmps24
    go_wp2_with fail
    refine (l3Fits_any A n c mi ps wl hpl hn).mono ?_
    rintro e w1 ⟨rfl, hb1⟩
    go_wp2_with fail
    go_ret
    exact ⟨_, 0, 0, rfl, Nat.le_refl _, by omega, by rw [cres_no rfl]; exact hlit.keep hb1, hbl.trans (hb1.mono hsl)⟩
  · have hm := Bp.fits_n hf
    obtain ⟨m, rfl⟩ := Int.eq_ofNat_of_zero_le (show 0 ≤ mi by omega)
    have m5 : m ≤ 5 := by omega
    have m1 : 1 ≤ m := by omega
    have Hf := Lib.hid hf
    obtain ⟨i0, hi0, hz0, hz1, hz2⟩ := info_parts int_info
    go_enter Try.func24, Try.ntmps24
    go_wp2_with fail
    refine (l3Fits_any A n c _ ps wl hpl hn).mono ?_
    rintro e w1 ⟨rfl, hb1⟩
    have hs1 := hb1.size
    have hlit1 := hlit.keep hb1
    have hB1 := hbl.trans (hb1.mono hsl)
    have hp1 := (hpl.below hb1).mono hs1
    clear hlit hb1 hpl hal
    go_wp2_with fail
    refine (sPairs_any A n c m ps _ hp1 hn Hf.out).mono ?_
    rintro e w2 ⟨g, c2, rfl, hc2, hg2, hownt, hb2⟩
    have hs2 := hb2.size
    have hlit2 := hlit1.keep hb2
    have hB2 := hB1.trans (hb2.mono (by omega))
    have hv2 := hownt.view
    clear hlit1 hb2 hownt hp1
    go_wp2_with fail
    refine (sPaths_any g m c2 ps _ hv2 m1 m5 hc2).mono ?_
    rintro e w0 ⟨gc, c3, rfl, hc3, hg3, hownt, hb3⟩
    have hs3 := hb3.size
    have hlit3 := hlit2.keep hb3
    have hB0 := hB2.trans (hb3.mono (by omega))
    obtain ⟨L, hL⟩ : ∃ L, w2.heap.size = L := ⟨_, rfl⟩
    obtain ⟨W, hW⟩ : ∃ W, w.heap.size = W := ⟨_, rfl⟩
    have own0 : Own w0 W (.slice (some ⟨w.heap.size, 0, none⟩) 0 0) 0 (Bp.picks (Bp.isBest (Bp.pathF ps m) m) 0) := by rw [← hW]; exact hlit3
    rw [hL] at hownt hs3
    rw [hW] at hB0 own0 hsl
    have hWL : W < L := by
      have : wl.heap.size = w.heap.size + 1 := by rw [← hwl]; simp
      omega
    have hfr0 := Far.refl L w0.heap.size w0
    have hbk0 : ∀ b, (Value.slice (some ⟨W, 0, none⟩) 0 0).ownBlock = some b → b < L ∨ w0.heap.size ≤ b := fun b e => by
      have e2 : W = b := Option.some.inj e
      omega
    have hsz0 := Nat.le_refl w0.heap.size
    have Hownt := Lib.hid hownt
    clear hlit2 hlit3 hv2 hb3 hownt hf
    go_wp2_with fail
    go_loopw [5, 7] (fun v i wr => ∃ (x : Nat) (A3 : Option Addr) (k3 c3 : Nat), x ≤ m ∧ v = .slice A3 k3 c3 ∧ k3 ≤ c3 ∧ i = .int .i64 x ∧ k3 ≤ x ∧ Own wr W (.slice A3 k3 c3) k3 (Bp.picks (Bp.isBest (Bp.pathF ps m) m) x) ∧ (∀ b, (Value.slice A3 k3 c3).ownBlock = some b → b < L ∨ w0.heap.size ≤ b) ∧ Far L w0.heap.size w0 wr ∧ w0.heap.size ≤ wr.heap.size ∧ Below W w wr) (fun _ i _ => m - (intOf i).toNat)
    case atStart => exact ⟨0, _, 0, 0, Nat.zero_le _, rfl, Nat.le_refl _, rfl, Nat.le_refl _, own0, hbk0, hfr0, hsz0, hB0⟩
    case round =>
      obtain ⟨x, A3, k3, c3, hx, rfl, hkc, rfl, hkx, hown, hbk, hfr, hsz, hb⟩ := hrel
      clear own0 hbk0 hfr0 hsz0 hB0
      have hz := hb.size
      obtain ⟨wo, rfl⟩ : ∃ wo : World, wo = wr := ⟨_, rfl⟩
      by_cases hxl : x < m
      · have i1 : (0 : Int) ≤ (x : Int) := by omega
        have i2 : (x : Int) < (m : Int) := by omega
        go_wp2_with fail
        go_loopw [8, 9] (fun b i wi => ∃ y : Nat, y ≤ m ∧ i = .int .i64 y ∧ b = .bool (Bp.allTo (fun j => decide (Bp.pathF ps m j x ≤ Bp.pathF ps m x j)) y) ∧ Drawn wo wi) (fun _ i _ => m - (intOf i).toNat)
        case atStart => exact ⟨0, Nat.zero_le _, rfl, rfl, Drawn.refl _⟩
        case round =>
          obtain ⟨y, hy, rfl, rfl, hd⟩ := hrel
          by_cases hyl : y < m
          · have i3 : (0 : Int) ≤ (y : Int) := by omega
            have i4 : (y : Int) < (m : Int) := by omega
            have hvy := (Hownt.out.far (hfr.drawn hd)).view
            unfold Bp.paths at hvy
            obtain ⟨ga, oa, ca, a1, ar⟩ := hvy.row_of rfl hxl
            obtain ⟨gb, ob, cb, b1, br⟩ := hvy.row_of rfl hyl
            have a2 := ar y hyl
            have b2 := br x hxl
            simp only [Nat.zero_add] at a1 b1
            have Hn := Lib.hid (show Bp.allTo (fun j => decide (Bp.pathF ps m j x ≤ Bp.pathF ps m x j)) (y + 1) = (Bp.allTo (fun j => decide (Bp.pathF ps m j x ≤ Bp.pathF ps m x j)) y && decide (Bp.pathF ps m y x ≤ Bp.pathF ps m x y)) from rfl)
            obtain ⟨s, hs⟩ : ∃ s, Bp.allTo (fun j => decide (Bp.pathF ps m j x ≤ Bp.pathF ps m x j)) y = s := ⟨_, rfl⟩
            obtain ⟨v1, hv1⟩ : ∃ z, Bp.pathF ps m x y = z := ⟨_, rfl⟩
            obtain ⟨v2, hv2⟩ : ∃ z, Bp.pathF ps m y x = z := ⟨_, rfl⟩
            rw [hs, hv1, hv2] at Hn
            rw [hv1] at a2
            rw [hv2] at b2
            rw [hs]
            clear ar br hs hv1 hv2
            cases s
            · go_wp2_with fail
              go_quiet (fail)
              go_wp2_with fail
              go_roundw
              case rel => exact ⟨y + 1, by omega, by go_num, by rw [Hn.out]; rfl, hd.drewN _⟩
              case measure => simp [intOf]; omega
            · go_wp2_with fail
              go_quiet (fail)
              go_wp2_with fail
              go_roundw
              case rel => exact ⟨y + 1, by omega, by go_num, by rw [Hn.out, Bool.true_and], hd.drewN _⟩
              case measure => simp [intOf]; omega
          · have hym : y = m := by omega
            have hbd := hd.below wo.heap.size
            have hsd := hbd.size
            have hown2 : Own wr W (.slice A3 k3 c3) k3 (Bp.picks (Bp.isBest (Bp.pathF ps m) m) x) := hown.keep hbd
            have hB2 := hb.trans (hd.below W)
            have hfr2 := hfr.drawn hd
            have hz2' := hB2.size
            have Hbk := Lib.hid hbk
            have Hp := Lib.hid (show Bp.picks (Bp.isBest (Bp.pathF ps m) m) (x + 1) = if Bp.isBest (Bp.pathF ps m) m x then Bp.picks (Bp.isBest (Bp.pathF ps m) m) x ++ [(x : Int)] else Bp.picks (Bp.isBest (Bp.pathF ps m) m) x from rfl)
            obtain ⟨s, hs⟩ : ∃ s, Bp.allTo (fun j => decide (Bp.pathF ps m j x ≤ Bp.pathF ps m x j)) y = s := ⟨_, rfl⟩
            have hs2 : Bp.isBest (Bp.pathF ps m) m x = s := by rw [← hs, hym]; rfl
            rw [hs2] at Hp
            rw [hs]
            clear hs hs2 hym hown
            cases s
            · go_wp2_with fail
              go_roundw
              case rel => exact ⟨x + 1, A3, k3, c3, by omega, by go_num, by omega, by go_num, by omega, by rw [Hp.out]; exact hown2, hbk, hfr2, by omega, hB2⟩
              case measure => simp [intOf]; omega
            · go_wp2_with (at_builtin; refine wpList_append_own_at _ rfl (.tmp 49) (.tmp 51) 30 rfl W 3 i0 _ 1 8 Try.underlying30 hi0 hz0 hz1 hz2 rfl (by decide) (.slice A3 k3 c3) k3 _ rfl (hown2.row.alloc _) ⟨wr.heap.size, 0, none⟩ 1 1 [.int .i64 (x : Int)] rfl rfl (cell_one_new _ _ _) (by simp [Value.oneCell']) (by unfold maxLen; omega) (by omega) (by simp; omega) ?_; intro v1 w6 hown6 hg6 _ hat6; obtain ⟨A4, c4, rfl, hkc1⟩ := own_slice hown6)
              go_roundw
              case rel => exact ⟨x + 1, A4, k3 + 1, c4, by omega, by go_num, by omega, by go_num, by omega, by rw [Hp.out, if_pos rfl]; unfold Own; rw [List.map_append]; exact hown6, (fun b e => by rcases hat6 with h6 | h6; (rw [h6] at e; exact Hbk.out b e); (rw [h6] at e; have := Option.some.inj e; simp at this; omega)), (hfr2.alloc (by omega) _).grown hg6 (by simp; omega) (fun b e => Hbk.out b e), by (have := hg6.size; simp at this; omega), (hB2.alloc (by omega) _).grown hg6 (by simp; omega) (fun b e => (hown2.row.lt b e).1)⟩
              case measure => simp [intOf]; omega
      · have hxm : x = m := by omega
        subst hxm
        have HW := Lib.hid hW
        go_wp2_with fail
        go_ret
        exact ⟨A3, k3, c3, rfl, hkc, by omega, by rw [cres_yes rfl, HW.out]; exact hown, by rw [HW.out]; exact hb⟩
end Go.Proofs.Ytbjkdplimdlfpaa
