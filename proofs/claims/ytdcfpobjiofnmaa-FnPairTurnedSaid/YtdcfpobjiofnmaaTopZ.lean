/-
  The walk of the program's PairTop.
-/
import Derived.Test.YtdcfpobjiofnmaaTopSet
namespace Go.Proofs.Ytdcfpobjiofnmaa
set_option linter.unusedVariables false
open Go.RowKit

set_option maxRecDepth 100000 in
set_option maxHeartbeats 1000000 in
theorem iPairTop_1 (A : Option Addr) (n c : Nat) (ps : List Bp.Pile) (w : World) (h : Piles w w.heap.size A n ps) (hn : n ≤ 1048576) (hnc : n ≤ c) (hf : Bp.fits ps ((1 : Nat) : Int) = true) :
    Calls Try.prog 29 #[.slice A n c, .int .i64 (1 : Int)] w (ListRes true (Bp.tops ps 1) w) := by
  have Hf := Lib.hid hf
  clear hf
  obtain ⟨i0, hi0, hz0, hz1, hz2⟩ := info_parts int_info
  have hfull := Bp.full_in 1 (by decide)
  have htop := fun b h1 h2 h3 h4 => Bp.topset ps (m := 1) (b := b) (by decide) (by decide) h1 h2 h3 h4
  have Hfull := Lib.hid hfull
  have Htop := Lib.hid htop
  clear hfull htop
  have hfitc := pilesFit_any A n c ((1 : Nat) : Int) ps w h hn hnc
  rw [Hf.out] at hfitc
  have Hfitc := Lib.hid hfitc
  clear hfitc
  go_enter Try.func29, Try.ntmps29
  go_wp2_with fail
  refine (Hfitc.out).mono ?_
  rintro e w1 ⟨rfl, hb1⟩
  have hs1 := hb1.size
  go_wp2_with fail
  refine (iPairs_any A n c 1 ps _ ((h.below hb1).mono hs1) hn Hf.out).mono ?_
  rintro e w0 ⟨gc, c2, rfl, hc2, hg2, hownt, hb2⟩
  have hv := hownt.view
  unfold Bp.pairs at hv
  have hB0 := hb1.trans (hb2.mono hs1)
  have hs2 := hB0.size
  clear hownt hb1 hb2
  go_wp2_with fail
  go_loopw [6, 7] (fun bv sv wr => ∃ b s : Nat, bv = .int .i64 b ∧ sv = .int .i64 s ∧ 1 ≤ s ∧ s ≤ 2 ∧ 1 ≤ b ∧ b < 2 ∧ Hid (Bp.Beats (fun x y => Bp.pref ps x y) 1 b ∧ ∀ q, 1 ≤ q → q < s → Bp.Beats (fun x y => Bp.pref ps x y) 1 q → Bp.pop b ≤ Bp.pop q) ∧ Drawn w0 wr) (fun _ sv _ => 2 - (intOf sv).toNat)
  case atStart => exact ⟨2 - 1, 1, rfl, rfl, Nat.le_refl _, by omega, by omega, by omega, ⟨fun x y _ hy _ h2 => (by rw [Hfull.out y hy] at h2; cases h2), fun q h1 h2 => absurd h2 (by omega)⟩, Drawn.refl _⟩
  case round =>
    obtain ⟨b, s, rfl, rfl, hs1, hsN, hb1, hbN, hgood, hd⟩ := hrel
    have hvr := hv.below (hd.below w0.heap.size)
    by_cases hlt : s < 2
    · have hws : IntKind.u64.wrap (s : Int) = s := IntWalk.u64_in _ (by omega)
      have hwb : IntKind.u64.wrap (b : Int) = b := IntWalk.u64_in _ (by omega)
      have ho1 := fun w' => ones_any s w' (by omega)
      have ho2 := fun w' => ones_any b w' (by omega)
      have hbo := beatsOthers_any gc 1 c2 s (fun x y => Bp.pref ps x y) _ wr hvr (by decide) hc2 (by omega)
      obtain ⟨ps', hps'⟩ : ∃ t, Bp.pop s = t := ⟨_, rfl⟩
      obtain ⟨pb, hpb⟩ : ∃ t, Bp.pop b = t := ⟨_, rfl⟩
      rw [hps'] at ho1
      rw [hpb] at ho2
      have Ho1 := Lib.hid ho1
      have Ho2 := Lib.hid ho2
      have Hbo := Lib.hid hbo
      have Hps := Lib.hid hps'
      have Hpb := Lib.hid hpb
      clear ho1 ho2 hbo hps' hpb
      by_cases hpp : ps' < pb
      · have d1 : decide ((ps' : Int) < (pb : Int)) = true := decide_eq_true (by omega)
        go_wp2_with fail
        with_reducible refine ((Ho1.out _)).mono ?_
        rintro e w1 ⟨rfl, rfl⟩
        go_wp2_with fail
        with_reducible refine ((Ho2.out _)).mono ?_
        rintro e w2 ⟨rfl, rfl⟩
        go_wp2_with fail
        with_reducible refine Hbo.out.mono ?_
        rintro e w3 ⟨v, rfl, hv3, hd3⟩
        have Hv3 := Lib.hid hv3
        clear hv3
        cases v
        · go_wp2_with fail
          go_roundw
          case rel => exact ⟨b, s + 1, rfl, by go_num, by omega, by omega, hb1, hbN, ⟨hgood.out.1, fun q h1 h2 h3 => by
            by_cases e : q = s
            · subst e
              have := Hv3.out.2 h3
              cases this
            · exact hgood.out.2 q h1 (by omega) h3⟩, hd.trans hd3⟩
          case measure => simp [intOf]; omega
        · go_wp2_with fail
          go_roundw
          case rel => exact ⟨s, s + 1, rfl, by go_num, by omega, by omega, hs1, hlt, ⟨(by first | exact Hv3.out.1 rfl | exact Hv3.out.1 trivial), fun q h1 h2 h3 => by
            by_cases e : q = s
            · subst e; exact Nat.le_refl _
            · have := hgood.out.2 q h1 (by omega) h3
              rw [Hpb.out] at this
              rw [Hps.out]
              omega⟩, hd.trans hd3⟩
          case measure => simp [intOf]; omega
      · have d1 : decide ((ps' : Int) < (pb : Int)) = false := decide_eq_false (by omega)
        go_wp2_with fail
        with_reducible refine ((Ho1.out _)).mono ?_
        rintro e w1 ⟨rfl, rfl⟩
        go_wp2_with fail
        with_reducible refine ((Ho2.out _)).mono ?_
        rintro e w2 ⟨rfl, rfl⟩
        go_wp2_with fail
        go_roundw
        case rel => exact ⟨b, s + 1, rfl, by go_num, by omega, by omega, hb1, hbN, ⟨hgood.out.1, fun q h1 h2 h3 => by
          by_cases e : q = s
          · subst e
            rw [Hpb.out, Hps.out]
            omega
          · exact hgood.out.2 q h1 (by omega) h3⟩, hd⟩
        case measure => simp [intOf]; omega
    · have hsN' : s = 2 := by omega
      have hsame := Htop.out b hb1 hbN hgood.out.1 (fun q h1 h2 h3 => hgood.out.2 q h1 (by omega) h3)
      have Hsame := Lib.hid hsame
      obtain ⟨W, hW⟩ : ∃ W, w0.heap.size = W := ⟨_, rfl⟩
      have hbW := hd.below W
      have own0 : Own wr W (.slice none 0 0) 0 (Bp.picks (Bp.isIn b) 0) := Own.nil _ _
      subst hsN'
      obtain ⟨wb, rfl⟩ : ∃ wo : World, wo = wr := ⟨_, rfl⟩
      clear hsame hgood hv hvr
      go_wp2_with fail
      go_loopw [8, 40] (fun v i wr => ∃ (x : Nat) (A3 : Option Addr) (k3 c3 : Nat), x ≤ 1 ∧ v = .slice A3 k3 c3 ∧ k3 ≤ c3 ∧ i = .int .i64 x ∧ k3 ≤ x ∧ Own wr W (.slice A3 k3 c3) k3 (Bp.picks (Bp.isIn b) x) ∧ Below W w0 wr) (fun _ i _ => 1 - (intOf i).toNat)
      case atStart => exact ⟨0, _, 0, 0, Nat.zero_le _, rfl, Nat.le_refl _, rfl, Nat.le_refl _, own0, hbW⟩
      case round =>
        obtain ⟨x, A3, k3, c3, hx, rfl, hkc, rfl, hkx, hown, hb⟩ := hrel
        clear own0 hbW
        have hz := hb.size
        by_cases hxl : x < 1
        · have i1 : (0 : Int) ≤ (x : Int) := by omega
          have bx := Bp.shr_and b x (by omega)
          have Hp := Lib.hid (show Bp.picks (Bp.isIn b) (x + 1) = if Bp.isIn b x then Bp.picks (Bp.isIn b) x ++ [(x : Int)] else Bp.picks (Bp.isIn b) x from rfl)
          obtain ⟨t, ht⟩ : ∃ t, Bp.isIn b x = t := ⟨_, rfl⟩
          rw [ht] at bx Hp
          clear ht
          cases t
          · rw [if_neg (by simp)] at bx
            go_wp2_with fail
            go_roundw
            case rel => exact ⟨x + 1, A3, k3, c3, by omega, by go_num, by omega, by go_num, by omega, by rw [Hp.out]; exact hown, hb⟩
            case measure => simp [intOf]; omega
          · rw [if_pos rfl] at bx
            go_wp2_with (at_builtin; refine wpList_append_own _ rfl (.tmp 48) (.tmp 50) 31 rfl W 3 i0 _ 1 8 Try.underlying31 hi0 hz0 hz1 hz2 rfl (by decide) (.slice A3 k3 c3) k3 _ rfl (hown.row.alloc _) ⟨wr.heap.size, 0, none⟩ 1 1 [.int .i64 (x : Int)] rfl rfl (cell_one_new _ _ _) (by simp [Value.oneCell']) (by unfold maxLen; omega) (by omega) (by simp; omega) ?_; intro v1 w6 hown6 hg6 _; obtain ⟨A4, c4, rfl, hkc1⟩ := own_slice hown6)
            go_roundw
            case rel => exact ⟨_, _, _, ⟨x + 1, by omega, A4, k3 + 1, c4, rfl, by omega, by go_num, by omega, (by rw [Hp.out]; (first | rw [if_pos rfl] | rw [if_pos trivial]); unfold Own; rw [List.map_append]; exact hown6), (hb.alloc (by omega) _).grown hg6 (by simp; omega) (fun b e => (hown.row.lt b e).1)⟩, rfl, rfl, by go_num⟩
            case measure => simp [intOf]; omega
        · have hxm : x = 1 := by omega
          have hfin : Bp.picks (Bp.isIn b) x = Bp.tops ps 1 := by
            rw [hxm]
            exact Bp.picks_congr (fun j hj => Hsame.out j hj)
          rw [hfin] at hown
          clear hfin hxm
          go_wp2_with fail
          go_ret
          exact ⟨A3, k3, c3, rfl, hkc, by omega, by rw [cres_yes rfl]; exact hown.base (by omega), hB0.trans (hb.mono (by omega))⟩
set_option maxRecDepth 100000 in
set_option maxHeartbeats 1000000 in
theorem iPairTop_2 (A : Option Addr) (n c : Nat) (ps : List Bp.Pile) (w : World) (h : Piles w w.heap.size A n ps) (hn : n ≤ 1048576) (hnc : n ≤ c) (hf : Bp.fits ps ((2 : Nat) : Int) = true) :
    Calls Try.prog 29 #[.slice A n c, .int .i64 (2 : Int)] w (ListRes true (Bp.tops ps 2) w) := by
  have Hf := Lib.hid hf
  clear hf
  obtain ⟨i0, hi0, hz0, hz1, hz2⟩ := info_parts int_info
  have hfull := Bp.full_in 2 (by decide)
  have htop := fun b h1 h2 h3 h4 => Bp.topset ps (m := 2) (b := b) (by decide) (by decide) h1 h2 h3 h4
  have Hfull := Lib.hid hfull
  have Htop := Lib.hid htop
  clear hfull htop
  have hfitc := pilesFit_any A n c ((2 : Nat) : Int) ps w h hn hnc
  rw [Hf.out] at hfitc
  have Hfitc := Lib.hid hfitc
  clear hfitc
  go_enter Try.func29, Try.ntmps29
  go_wp2_with fail
  refine (Hfitc.out).mono ?_
  rintro e w1 ⟨rfl, hb1⟩
  have hs1 := hb1.size
  go_wp2_with fail
  refine (iPairs_any A n c 2 ps _ ((h.below hb1).mono hs1) hn Hf.out).mono ?_
  rintro e w0 ⟨gc, c2, rfl, hc2, hg2, hownt, hb2⟩
  have hv := hownt.view
  unfold Bp.pairs at hv
  have hB0 := hb1.trans (hb2.mono hs1)
  have hs2 := hB0.size
  clear hownt hb1 hb2
  go_wp2_with fail
  go_loopw [6, 7] (fun bv sv wr => ∃ b s : Nat, bv = .int .i64 b ∧ sv = .int .i64 s ∧ 1 ≤ s ∧ s ≤ 4 ∧ 1 ≤ b ∧ b < 4 ∧ Hid (Bp.Beats (fun x y => Bp.pref ps x y) 2 b ∧ ∀ q, 1 ≤ q → q < s → Bp.Beats (fun x y => Bp.pref ps x y) 2 q → Bp.pop b ≤ Bp.pop q) ∧ Drawn w0 wr) (fun _ sv _ => 4 - (intOf sv).toNat)
  case atStart => exact ⟨4 - 1, 1, rfl, rfl, Nat.le_refl _, by omega, by omega, by omega, ⟨fun x y _ hy _ h2 => (by rw [Hfull.out y hy] at h2; cases h2), fun q h1 h2 => absurd h2 (by omega)⟩, Drawn.refl _⟩
  case round =>
    obtain ⟨b, s, rfl, rfl, hs1, hsN, hb1, hbN, hgood, hd⟩ := hrel
    have hvr := hv.below (hd.below w0.heap.size)
    by_cases hlt : s < 4
    · have hws : IntKind.u64.wrap (s : Int) = s := IntWalk.u64_in _ (by omega)
      have hwb : IntKind.u64.wrap (b : Int) = b := IntWalk.u64_in _ (by omega)
      have ho1 := fun w' => ones_any s w' (by omega)
      have ho2 := fun w' => ones_any b w' (by omega)
      have hbo := beatsOthers_any gc 2 c2 s (fun x y => Bp.pref ps x y) _ wr hvr (by decide) hc2 (by omega)
      obtain ⟨ps', hps'⟩ : ∃ t, Bp.pop s = t := ⟨_, rfl⟩
      obtain ⟨pb, hpb⟩ : ∃ t, Bp.pop b = t := ⟨_, rfl⟩
      rw [hps'] at ho1
      rw [hpb] at ho2
      have Ho1 := Lib.hid ho1
      have Ho2 := Lib.hid ho2
      have Hbo := Lib.hid hbo
      have Hps := Lib.hid hps'
      have Hpb := Lib.hid hpb
      clear ho1 ho2 hbo hps' hpb
      by_cases hpp : ps' < pb
      · have d1 : decide ((ps' : Int) < (pb : Int)) = true := decide_eq_true (by omega)
        go_wp2_with fail
        with_reducible refine ((Ho1.out _)).mono ?_
        rintro e w1 ⟨rfl, rfl⟩
        go_wp2_with fail
        with_reducible refine ((Ho2.out _)).mono ?_
        rintro e w2 ⟨rfl, rfl⟩
        go_wp2_with fail
        with_reducible refine Hbo.out.mono ?_
        rintro e w3 ⟨v, rfl, hv3, hd3⟩
        have Hv3 := Lib.hid hv3
        clear hv3
        cases v
        · go_wp2_with fail
          go_roundw
          case rel => exact ⟨b, s + 1, rfl, by go_num, by omega, by omega, hb1, hbN, ⟨hgood.out.1, fun q h1 h2 h3 => by
            by_cases e : q = s
            · subst e
              have := Hv3.out.2 h3
              cases this
            · exact hgood.out.2 q h1 (by omega) h3⟩, hd.trans hd3⟩
          case measure => simp [intOf]; omega
        · go_wp2_with fail
          go_roundw
          case rel => exact ⟨s, s + 1, rfl, by go_num, by omega, by omega, hs1, hlt, ⟨(by first | exact Hv3.out.1 rfl | exact Hv3.out.1 trivial), fun q h1 h2 h3 => by
            by_cases e : q = s
            · subst e; exact Nat.le_refl _
            · have := hgood.out.2 q h1 (by omega) h3
              rw [Hpb.out] at this
              rw [Hps.out]
              omega⟩, hd.trans hd3⟩
          case measure => simp [intOf]; omega
      · have d1 : decide ((ps' : Int) < (pb : Int)) = false := decide_eq_false (by omega)
        go_wp2_with fail
        with_reducible refine ((Ho1.out _)).mono ?_
        rintro e w1 ⟨rfl, rfl⟩
        go_wp2_with fail
        with_reducible refine ((Ho2.out _)).mono ?_
        rintro e w2 ⟨rfl, rfl⟩
        go_wp2_with fail
        go_roundw
        case rel => exact ⟨b, s + 1, rfl, by go_num, by omega, by omega, hb1, hbN, ⟨hgood.out.1, fun q h1 h2 h3 => by
          by_cases e : q = s
          · subst e
            rw [Hpb.out, Hps.out]
            omega
          · exact hgood.out.2 q h1 (by omega) h3⟩, hd⟩
        case measure => simp [intOf]; omega
    · have hsN' : s = 4 := by omega
      have hsame := Htop.out b hb1 hbN hgood.out.1 (fun q h1 h2 h3 => hgood.out.2 q h1 (by omega) h3)
      have Hsame := Lib.hid hsame
      obtain ⟨W, hW⟩ : ∃ W, w0.heap.size = W := ⟨_, rfl⟩
      have hbW := hd.below W
      have own0 : Own wr W (.slice none 0 0) 0 (Bp.picks (Bp.isIn b) 0) := Own.nil _ _
      subst hsN'
      obtain ⟨wb, rfl⟩ : ∃ wo : World, wo = wr := ⟨_, rfl⟩
      clear hsame hgood hv hvr
      go_wp2_with fail
      go_loopw [8, 40] (fun v i wr => ∃ (x : Nat) (A3 : Option Addr) (k3 c3 : Nat), x ≤ 2 ∧ v = .slice A3 k3 c3 ∧ k3 ≤ c3 ∧ i = .int .i64 x ∧ k3 ≤ x ∧ Own wr W (.slice A3 k3 c3) k3 (Bp.picks (Bp.isIn b) x) ∧ Below W w0 wr) (fun _ i _ => 2 - (intOf i).toNat)
      case atStart => exact ⟨0, _, 0, 0, Nat.zero_le _, rfl, Nat.le_refl _, rfl, Nat.le_refl _, own0, hbW⟩
      case round =>
        obtain ⟨x, A3, k3, c3, hx, rfl, hkc, rfl, hkx, hown, hb⟩ := hrel
        clear own0 hbW
        have hz := hb.size
        by_cases hxl : x < 2
        · have i1 : (0 : Int) ≤ (x : Int) := by omega
          have bx := Bp.shr_and b x (by omega)
          have Hp := Lib.hid (show Bp.picks (Bp.isIn b) (x + 1) = if Bp.isIn b x then Bp.picks (Bp.isIn b) x ++ [(x : Int)] else Bp.picks (Bp.isIn b) x from rfl)
          obtain ⟨t, ht⟩ : ∃ t, Bp.isIn b x = t := ⟨_, rfl⟩
          rw [ht] at bx Hp
          clear ht
          cases t
          · rw [if_neg (by simp)] at bx
            go_wp2_with fail
            go_roundw
            case rel => exact ⟨x + 1, A3, k3, c3, by omega, by go_num, by omega, by go_num, by omega, by rw [Hp.out]; exact hown, hb⟩
            case measure => simp [intOf]; omega
          · rw [if_pos rfl] at bx
            go_wp2_with (at_builtin; refine wpList_append_own _ rfl (.tmp 48) (.tmp 50) 31 rfl W 3 i0 _ 1 8 Try.underlying31 hi0 hz0 hz1 hz2 rfl (by decide) (.slice A3 k3 c3) k3 _ rfl (hown.row.alloc _) ⟨wr.heap.size, 0, none⟩ 1 1 [.int .i64 (x : Int)] rfl rfl (cell_one_new _ _ _) (by simp [Value.oneCell']) (by unfold maxLen; omega) (by omega) (by simp; omega) ?_; intro v1 w6 hown6 hg6 _; obtain ⟨A4, c4, rfl, hkc1⟩ := own_slice hown6)
            go_roundw
            case rel => exact ⟨_, _, _, ⟨x + 1, by omega, A4, k3 + 1, c4, rfl, by omega, by go_num, by omega, (by rw [Hp.out]; (first | rw [if_pos rfl] | rw [if_pos trivial]); unfold Own; rw [List.map_append]; exact hown6), (hb.alloc (by omega) _).grown hg6 (by simp; omega) (fun b e => (hown.row.lt b e).1)⟩, rfl, rfl, by go_num⟩
            case measure => simp [intOf]; omega
        · have hxm : x = 2 := by omega
          have hfin : Bp.picks (Bp.isIn b) x = Bp.tops ps 2 := by
            rw [hxm]
            exact Bp.picks_congr (fun j hj => Hsame.out j hj)
          rw [hfin] at hown
          clear hfin hxm
          go_wp2_with fail
          go_ret
          exact ⟨A3, k3, c3, rfl, hkc, by omega, by rw [cres_yes rfl]; exact hown.base (by omega), hB0.trans (hb.mono (by omega))⟩
set_option maxRecDepth 100000 in
set_option maxHeartbeats 1000000 in
theorem iPairTop_3 (A : Option Addr) (n c : Nat) (ps : List Bp.Pile) (w : World) (h : Piles w w.heap.size A n ps) (hn : n ≤ 1048576) (hnc : n ≤ c) (hf : Bp.fits ps ((3 : Nat) : Int) = true) :
    Calls Try.prog 29 #[.slice A n c, .int .i64 (3 : Int)] w (ListRes true (Bp.tops ps 3) w) := by
  have Hf := Lib.hid hf
  clear hf
  obtain ⟨i0, hi0, hz0, hz1, hz2⟩ := info_parts int_info
  have hfull := Bp.full_in 3 (by decide)
  have htop := fun b h1 h2 h3 h4 => Bp.topset ps (m := 3) (b := b) (by decide) (by decide) h1 h2 h3 h4
  have Hfull := Lib.hid hfull
  have Htop := Lib.hid htop
  clear hfull htop
  have hfitc := pilesFit_any A n c ((3 : Nat) : Int) ps w h hn hnc
  rw [Hf.out] at hfitc
  have Hfitc := Lib.hid hfitc
  clear hfitc
  go_enter Try.func29, Try.ntmps29
  go_wp2_with fail
  refine (Hfitc.out).mono ?_
  rintro e w1 ⟨rfl, hb1⟩
  have hs1 := hb1.size
  go_wp2_with fail
  refine (iPairs_any A n c 3 ps _ ((h.below hb1).mono hs1) hn Hf.out).mono ?_
  rintro e w0 ⟨gc, c2, rfl, hc2, hg2, hownt, hb2⟩
  have hv := hownt.view
  unfold Bp.pairs at hv
  have hB0 := hb1.trans (hb2.mono hs1)
  have hs2 := hB0.size
  clear hownt hb1 hb2
  go_wp2_with fail
  go_loopw [6, 7] (fun bv sv wr => ∃ b s : Nat, bv = .int .i64 b ∧ sv = .int .i64 s ∧ 1 ≤ s ∧ s ≤ 8 ∧ 1 ≤ b ∧ b < 8 ∧ Hid (Bp.Beats (fun x y => Bp.pref ps x y) 3 b ∧ ∀ q, 1 ≤ q → q < s → Bp.Beats (fun x y => Bp.pref ps x y) 3 q → Bp.pop b ≤ Bp.pop q) ∧ Drawn w0 wr) (fun _ sv _ => 8 - (intOf sv).toNat)
  case atStart => exact ⟨8 - 1, 1, rfl, rfl, Nat.le_refl _, by omega, by omega, by omega, ⟨fun x y _ hy _ h2 => (by rw [Hfull.out y hy] at h2; cases h2), fun q h1 h2 => absurd h2 (by omega)⟩, Drawn.refl _⟩
  case round =>
    obtain ⟨b, s, rfl, rfl, hs1, hsN, hb1, hbN, hgood, hd⟩ := hrel
    have hvr := hv.below (hd.below w0.heap.size)
    by_cases hlt : s < 8
    · have hws : IntKind.u64.wrap (s : Int) = s := IntWalk.u64_in _ (by omega)
      have hwb : IntKind.u64.wrap (b : Int) = b := IntWalk.u64_in _ (by omega)
      have ho1 := fun w' => ones_any s w' (by omega)
      have ho2 := fun w' => ones_any b w' (by omega)
      have hbo := beatsOthers_any gc 3 c2 s (fun x y => Bp.pref ps x y) _ wr hvr (by decide) hc2 (by omega)
      obtain ⟨ps', hps'⟩ : ∃ t, Bp.pop s = t := ⟨_, rfl⟩
      obtain ⟨pb, hpb⟩ : ∃ t, Bp.pop b = t := ⟨_, rfl⟩
      rw [hps'] at ho1
      rw [hpb] at ho2
      have Ho1 := Lib.hid ho1
      have Ho2 := Lib.hid ho2
      have Hbo := Lib.hid hbo
      have Hps := Lib.hid hps'
      have Hpb := Lib.hid hpb
      clear ho1 ho2 hbo hps' hpb
      by_cases hpp : ps' < pb
      · have d1 : decide ((ps' : Int) < (pb : Int)) = true := decide_eq_true (by omega)
        go_wp2_with fail
        with_reducible refine ((Ho1.out _)).mono ?_
        rintro e w1 ⟨rfl, rfl⟩
        go_wp2_with fail
        with_reducible refine ((Ho2.out _)).mono ?_
        rintro e w2 ⟨rfl, rfl⟩
        go_wp2_with fail
        with_reducible refine Hbo.out.mono ?_
        rintro e w3 ⟨v, rfl, hv3, hd3⟩
        have Hv3 := Lib.hid hv3
        clear hv3
        cases v
        · go_wp2_with fail
          go_roundw
          case rel => exact ⟨b, s + 1, rfl, by go_num, by omega, by omega, hb1, hbN, ⟨hgood.out.1, fun q h1 h2 h3 => by
            by_cases e : q = s
            · subst e
              have := Hv3.out.2 h3
              cases this
            · exact hgood.out.2 q h1 (by omega) h3⟩, hd.trans hd3⟩
          case measure => simp [intOf]; omega
        · go_wp2_with fail
          go_roundw
          case rel => exact ⟨s, s + 1, rfl, by go_num, by omega, by omega, hs1, hlt, ⟨(by first | exact Hv3.out.1 rfl | exact Hv3.out.1 trivial), fun q h1 h2 h3 => by
            by_cases e : q = s
            · subst e; exact Nat.le_refl _
            · have := hgood.out.2 q h1 (by omega) h3
              rw [Hpb.out] at this
              rw [Hps.out]
              omega⟩, hd.trans hd3⟩
          case measure => simp [intOf]; omega
      · have d1 : decide ((ps' : Int) < (pb : Int)) = false := decide_eq_false (by omega)
        go_wp2_with fail
        with_reducible refine ((Ho1.out _)).mono ?_
        rintro e w1 ⟨rfl, rfl⟩
        go_wp2_with fail
        with_reducible refine ((Ho2.out _)).mono ?_
        rintro e w2 ⟨rfl, rfl⟩
        go_wp2_with fail
        go_roundw
        case rel => exact ⟨b, s + 1, rfl, by go_num, by omega, by omega, hb1, hbN, ⟨hgood.out.1, fun q h1 h2 h3 => by
          by_cases e : q = s
          · subst e
            rw [Hpb.out, Hps.out]
            omega
          · exact hgood.out.2 q h1 (by omega) h3⟩, hd⟩
        case measure => simp [intOf]; omega
    · have hsN' : s = 8 := by omega
      have hsame := Htop.out b hb1 hbN hgood.out.1 (fun q h1 h2 h3 => hgood.out.2 q h1 (by omega) h3)
      have Hsame := Lib.hid hsame
      obtain ⟨W, hW⟩ : ∃ W, w0.heap.size = W := ⟨_, rfl⟩
      have hbW := hd.below W
      have own0 : Own wr W (.slice none 0 0) 0 (Bp.picks (Bp.isIn b) 0) := Own.nil _ _
      subst hsN'
      obtain ⟨wb, rfl⟩ : ∃ wo : World, wo = wr := ⟨_, rfl⟩
      clear hsame hgood hv hvr
      go_wp2_with fail
      go_loopw [8, 40] (fun v i wr => ∃ (x : Nat) (A3 : Option Addr) (k3 c3 : Nat), x ≤ 3 ∧ v = .slice A3 k3 c3 ∧ k3 ≤ c3 ∧ i = .int .i64 x ∧ k3 ≤ x ∧ Own wr W (.slice A3 k3 c3) k3 (Bp.picks (Bp.isIn b) x) ∧ Below W w0 wr) (fun _ i _ => 3 - (intOf i).toNat)
      case atStart => exact ⟨0, _, 0, 0, Nat.zero_le _, rfl, Nat.le_refl _, rfl, Nat.le_refl _, own0, hbW⟩
      case round =>
        obtain ⟨x, A3, k3, c3, hx, rfl, hkc, rfl, hkx, hown, hb⟩ := hrel
        clear own0 hbW
        have hz := hb.size
        by_cases hxl : x < 3
        · have i1 : (0 : Int) ≤ (x : Int) := by omega
          have bx := Bp.shr_and b x (by omega)
          have Hp := Lib.hid (show Bp.picks (Bp.isIn b) (x + 1) = if Bp.isIn b x then Bp.picks (Bp.isIn b) x ++ [(x : Int)] else Bp.picks (Bp.isIn b) x from rfl)
          obtain ⟨t, ht⟩ : ∃ t, Bp.isIn b x = t := ⟨_, rfl⟩
          rw [ht] at bx Hp
          clear ht
          cases t
          · rw [if_neg (by simp)] at bx
            go_wp2_with fail
            go_roundw
            case rel => exact ⟨x + 1, A3, k3, c3, by omega, by go_num, by omega, by go_num, by omega, by rw [Hp.out]; exact hown, hb⟩
            case measure => simp [intOf]; omega
          · rw [if_pos rfl] at bx
            go_wp2_with (at_builtin; refine wpList_append_own _ rfl (.tmp 48) (.tmp 50) 31 rfl W 3 i0 _ 1 8 Try.underlying31 hi0 hz0 hz1 hz2 rfl (by decide) (.slice A3 k3 c3) k3 _ rfl (hown.row.alloc _) ⟨wr.heap.size, 0, none⟩ 1 1 [.int .i64 (x : Int)] rfl rfl (cell_one_new _ _ _) (by simp [Value.oneCell']) (by unfold maxLen; omega) (by omega) (by simp; omega) ?_; intro v1 w6 hown6 hg6 _; obtain ⟨A4, c4, rfl, hkc1⟩ := own_slice hown6)
            go_roundw
            case rel => exact ⟨_, _, _, ⟨x + 1, by omega, A4, k3 + 1, c4, rfl, by omega, by go_num, by omega, (by rw [Hp.out]; (first | rw [if_pos rfl] | rw [if_pos trivial]); unfold Own; rw [List.map_append]; exact hown6), (hb.alloc (by omega) _).grown hg6 (by simp; omega) (fun b e => (hown.row.lt b e).1)⟩, rfl, rfl, by go_num⟩
            case measure => simp [intOf]; omega
        · have hxm : x = 3 := by omega
          have hfin : Bp.picks (Bp.isIn b) x = Bp.tops ps 3 := by
            rw [hxm]
            exact Bp.picks_congr (fun j hj => Hsame.out j hj)
          rw [hfin] at hown
          clear hfin hxm
          go_wp2_with fail
          go_ret
          exact ⟨A3, k3, c3, rfl, hkc, by omega, by rw [cres_yes rfl]; exact hown.base (by omega), hB0.trans (hb.mono (by omega))⟩
set_option maxRecDepth 100000 in
set_option maxHeartbeats 1000000 in
theorem iPairTop_4 (A : Option Addr) (n c : Nat) (ps : List Bp.Pile) (w : World) (h : Piles w w.heap.size A n ps) (hn : n ≤ 1048576) (hnc : n ≤ c) (hf : Bp.fits ps ((4 : Nat) : Int) = true) :
    Calls Try.prog 29 #[.slice A n c, .int .i64 (4 : Int)] w (ListRes true (Bp.tops ps 4) w) := by
  have Hf := Lib.hid hf
  clear hf
  obtain ⟨i0, hi0, hz0, hz1, hz2⟩ := info_parts int_info
  have hfull := Bp.full_in 4 (by decide)
  have htop := fun b h1 h2 h3 h4 => Bp.topset ps (m := 4) (b := b) (by decide) (by decide) h1 h2 h3 h4
  have Hfull := Lib.hid hfull
  have Htop := Lib.hid htop
  clear hfull htop
  have hfitc := pilesFit_any A n c ((4 : Nat) : Int) ps w h hn hnc
  rw [Hf.out] at hfitc
  have Hfitc := Lib.hid hfitc
  clear hfitc
  go_enter Try.func29, Try.ntmps29
  go_wp2_with fail
  refine (Hfitc.out).mono ?_
  rintro e w1 ⟨rfl, hb1⟩
  have hs1 := hb1.size
  go_wp2_with fail
  refine (iPairs_any A n c 4 ps _ ((h.below hb1).mono hs1) hn Hf.out).mono ?_
  rintro e w0 ⟨gc, c2, rfl, hc2, hg2, hownt, hb2⟩
  have hv := hownt.view
  unfold Bp.pairs at hv
  have hB0 := hb1.trans (hb2.mono hs1)
  have hs2 := hB0.size
  clear hownt hb1 hb2
  go_wp2_with fail
  go_loopw [6, 7] (fun bv sv wr => ∃ b s : Nat, bv = .int .i64 b ∧ sv = .int .i64 s ∧ 1 ≤ s ∧ s ≤ 16 ∧ 1 ≤ b ∧ b < 16 ∧ Hid (Bp.Beats (fun x y => Bp.pref ps x y) 4 b ∧ ∀ q, 1 ≤ q → q < s → Bp.Beats (fun x y => Bp.pref ps x y) 4 q → Bp.pop b ≤ Bp.pop q) ∧ Drawn w0 wr) (fun _ sv _ => 16 - (intOf sv).toNat)
  case atStart => exact ⟨16 - 1, 1, rfl, rfl, Nat.le_refl _, by omega, by omega, by omega, ⟨fun x y _ hy _ h2 => (by rw [Hfull.out y hy] at h2; cases h2), fun q h1 h2 => absurd h2 (by omega)⟩, Drawn.refl _⟩
  case round =>
    obtain ⟨b, s, rfl, rfl, hs1, hsN, hb1, hbN, hgood, hd⟩ := hrel
    have hvr := hv.below (hd.below w0.heap.size)
    by_cases hlt : s < 16
    · have hws : IntKind.u64.wrap (s : Int) = s := IntWalk.u64_in _ (by omega)
      have hwb : IntKind.u64.wrap (b : Int) = b := IntWalk.u64_in _ (by omega)
      have ho1 := fun w' => ones_any s w' (by omega)
      have ho2 := fun w' => ones_any b w' (by omega)
      have hbo := beatsOthers_any gc 4 c2 s (fun x y => Bp.pref ps x y) _ wr hvr (by decide) hc2 (by omega)
      obtain ⟨ps', hps'⟩ : ∃ t, Bp.pop s = t := ⟨_, rfl⟩
      obtain ⟨pb, hpb⟩ : ∃ t, Bp.pop b = t := ⟨_, rfl⟩
      rw [hps'] at ho1
      rw [hpb] at ho2
      have Ho1 := Lib.hid ho1
      have Ho2 := Lib.hid ho2
      have Hbo := Lib.hid hbo
      have Hps := Lib.hid hps'
      have Hpb := Lib.hid hpb
      clear ho1 ho2 hbo hps' hpb
      by_cases hpp : ps' < pb
      · have d1 : decide ((ps' : Int) < (pb : Int)) = true := decide_eq_true (by omega)
        go_wp2_with fail
        with_reducible refine ((Ho1.out _)).mono ?_
        rintro e w1 ⟨rfl, rfl⟩
        go_wp2_with fail
        with_reducible refine ((Ho2.out _)).mono ?_
        rintro e w2 ⟨rfl, rfl⟩
        go_wp2_with fail
        with_reducible refine Hbo.out.mono ?_
        rintro e w3 ⟨v, rfl, hv3, hd3⟩
        have Hv3 := Lib.hid hv3
        clear hv3
        cases v
        · go_wp2_with fail
          go_roundw
          case rel => exact ⟨b, s + 1, rfl, by go_num, by omega, by omega, hb1, hbN, ⟨hgood.out.1, fun q h1 h2 h3 => by
            by_cases e : q = s
            · subst e
              have := Hv3.out.2 h3
              cases this
            · exact hgood.out.2 q h1 (by omega) h3⟩, hd.trans hd3⟩
          case measure => simp [intOf]; omega
        · go_wp2_with fail
          go_roundw
          case rel => exact ⟨s, s + 1, rfl, by go_num, by omega, by omega, hs1, hlt, ⟨(by first | exact Hv3.out.1 rfl | exact Hv3.out.1 trivial), fun q h1 h2 h3 => by
            by_cases e : q = s
            · subst e; exact Nat.le_refl _
            · have := hgood.out.2 q h1 (by omega) h3
              rw [Hpb.out] at this
              rw [Hps.out]
              omega⟩, hd.trans hd3⟩
          case measure => simp [intOf]; omega
      · have d1 : decide ((ps' : Int) < (pb : Int)) = false := decide_eq_false (by omega)
        go_wp2_with fail
        with_reducible refine ((Ho1.out _)).mono ?_
        rintro e w1 ⟨rfl, rfl⟩
        go_wp2_with fail
        with_reducible refine ((Ho2.out _)).mono ?_
        rintro e w2 ⟨rfl, rfl⟩
        go_wp2_with fail
        go_roundw
        case rel => exact ⟨b, s + 1, rfl, by go_num, by omega, by omega, hb1, hbN, ⟨hgood.out.1, fun q h1 h2 h3 => by
          by_cases e : q = s
          · subst e
            rw [Hpb.out, Hps.out]
            omega
          · exact hgood.out.2 q h1 (by omega) h3⟩, hd⟩
        case measure => simp [intOf]; omega
    · have hsN' : s = 16 := by omega
      have hsame := Htop.out b hb1 hbN hgood.out.1 (fun q h1 h2 h3 => hgood.out.2 q h1 (by omega) h3)
      have Hsame := Lib.hid hsame
      obtain ⟨W, hW⟩ : ∃ W, w0.heap.size = W := ⟨_, rfl⟩
      have hbW := hd.below W
      have own0 : Own wr W (.slice none 0 0) 0 (Bp.picks (Bp.isIn b) 0) := Own.nil _ _
      subst hsN'
      obtain ⟨wb, rfl⟩ : ∃ wo : World, wo = wr := ⟨_, rfl⟩
      clear hsame hgood hv hvr
      go_wp2_with fail
      go_loopw [8, 40] (fun v i wr => ∃ (x : Nat) (A3 : Option Addr) (k3 c3 : Nat), x ≤ 4 ∧ v = .slice A3 k3 c3 ∧ k3 ≤ c3 ∧ i = .int .i64 x ∧ k3 ≤ x ∧ Own wr W (.slice A3 k3 c3) k3 (Bp.picks (Bp.isIn b) x) ∧ Below W w0 wr) (fun _ i _ => 4 - (intOf i).toNat)
      case atStart => exact ⟨0, _, 0, 0, Nat.zero_le _, rfl, Nat.le_refl _, rfl, Nat.le_refl _, own0, hbW⟩
      case round =>
        obtain ⟨x, A3, k3, c3, hx, rfl, hkc, rfl, hkx, hown, hb⟩ := hrel
        clear own0 hbW
        have hz := hb.size
        by_cases hxl : x < 4
        · have i1 : (0 : Int) ≤ (x : Int) := by omega
          have bx := Bp.shr_and b x (by omega)
          have Hp := Lib.hid (show Bp.picks (Bp.isIn b) (x + 1) = if Bp.isIn b x then Bp.picks (Bp.isIn b) x ++ [(x : Int)] else Bp.picks (Bp.isIn b) x from rfl)
          obtain ⟨t, ht⟩ : ∃ t, Bp.isIn b x = t := ⟨_, rfl⟩
          rw [ht] at bx Hp
          clear ht
          cases t
          · rw [if_neg (by simp)] at bx
            go_wp2_with fail
            go_roundw
            case rel => exact ⟨x + 1, A3, k3, c3, by omega, by go_num, by omega, by go_num, by omega, by rw [Hp.out]; exact hown, hb⟩
            case measure => simp [intOf]; omega
          · rw [if_pos rfl] at bx
            go_wp2_with (at_builtin; refine wpList_append_own _ rfl (.tmp 48) (.tmp 50) 31 rfl W 3 i0 _ 1 8 Try.underlying31 hi0 hz0 hz1 hz2 rfl (by decide) (.slice A3 k3 c3) k3 _ rfl (hown.row.alloc _) ⟨wr.heap.size, 0, none⟩ 1 1 [.int .i64 (x : Int)] rfl rfl (cell_one_new _ _ _) (by simp [Value.oneCell']) (by unfold maxLen; omega) (by omega) (by simp; omega) ?_; intro v1 w6 hown6 hg6 _; obtain ⟨A4, c4, rfl, hkc1⟩ := own_slice hown6)
            go_roundw
            case rel => exact ⟨_, _, _, ⟨x + 1, by omega, A4, k3 + 1, c4, rfl, by omega, by go_num, by omega, (by rw [Hp.out]; (first | rw [if_pos rfl] | rw [if_pos trivial]); unfold Own; rw [List.map_append]; exact hown6), (hb.alloc (by omega) _).grown hg6 (by simp; omega) (fun b e => (hown.row.lt b e).1)⟩, rfl, rfl, by go_num⟩
            case measure => simp [intOf]; omega
        · have hxm : x = 4 := by omega
          have hfin : Bp.picks (Bp.isIn b) x = Bp.tops ps 4 := by
            rw [hxm]
            exact Bp.picks_congr (fun j hj => Hsame.out j hj)
          rw [hfin] at hown
          clear hfin hxm
          go_wp2_with fail
          go_ret
          exact ⟨A3, k3, c3, rfl, hkc, by omega, by rw [cres_yes rfl]; exact hown.base (by omega), hB0.trans (hb.mono (by omega))⟩
set_option maxRecDepth 100000 in
set_option maxHeartbeats 1000000 in
theorem iPairTop_5 (A : Option Addr) (n c : Nat) (ps : List Bp.Pile) (w : World) (h : Piles w w.heap.size A n ps) (hn : n ≤ 1048576) (hnc : n ≤ c) (hf : Bp.fits ps ((5 : Nat) : Int) = true) :
    Calls Try.prog 29 #[.slice A n c, .int .i64 (5 : Int)] w (ListRes true (Bp.tops ps 5) w) := by
  have Hf := Lib.hid hf
  clear hf
  obtain ⟨i0, hi0, hz0, hz1, hz2⟩ := info_parts int_info
  have hfull := Bp.full_in 5 (by decide)
  have htop := fun b h1 h2 h3 h4 => Bp.topset ps (m := 5) (b := b) (by decide) (by decide) h1 h2 h3 h4
  have Hfull := Lib.hid hfull
  have Htop := Lib.hid htop
  clear hfull htop
  have hfitc := pilesFit_any A n c ((5 : Nat) : Int) ps w h hn hnc
  rw [Hf.out] at hfitc
  have Hfitc := Lib.hid hfitc
  clear hfitc
  go_enter Try.func29, Try.ntmps29
  go_wp2_with fail
  refine (Hfitc.out).mono ?_
  rintro e w1 ⟨rfl, hb1⟩
  have hs1 := hb1.size
  go_wp2_with fail
  refine (iPairs_any A n c 5 ps _ ((h.below hb1).mono hs1) hn Hf.out).mono ?_
  rintro e w0 ⟨gc, c2, rfl, hc2, hg2, hownt, hb2⟩
  have hv := hownt.view
  unfold Bp.pairs at hv
  have hB0 := hb1.trans (hb2.mono hs1)
  have hs2 := hB0.size
  clear hownt hb1 hb2
  go_wp2_with fail
  go_loopw [6, 7] (fun bv sv wr => ∃ b s : Nat, bv = .int .i64 b ∧ sv = .int .i64 s ∧ 1 ≤ s ∧ s ≤ 32 ∧ 1 ≤ b ∧ b < 32 ∧ Hid (Bp.Beats (fun x y => Bp.pref ps x y) 5 b ∧ ∀ q, 1 ≤ q → q < s → Bp.Beats (fun x y => Bp.pref ps x y) 5 q → Bp.pop b ≤ Bp.pop q) ∧ Drawn w0 wr) (fun _ sv _ => 32 - (intOf sv).toNat)
  case atStart => exact ⟨32 - 1, 1, rfl, rfl, Nat.le_refl _, by omega, by omega, by omega, ⟨fun x y _ hy _ h2 => (by rw [Hfull.out y hy] at h2; cases h2), fun q h1 h2 => absurd h2 (by omega)⟩, Drawn.refl _⟩
  case round =>
    obtain ⟨b, s, rfl, rfl, hs1, hsN, hb1, hbN, hgood, hd⟩ := hrel
    have hvr := hv.below (hd.below w0.heap.size)
    by_cases hlt : s < 32
    · have hws : IntKind.u64.wrap (s : Int) = s := IntWalk.u64_in _ (by omega)
      have hwb : IntKind.u64.wrap (b : Int) = b := IntWalk.u64_in _ (by omega)
      have ho1 := fun w' => ones_any s w' (by omega)
      have ho2 := fun w' => ones_any b w' (by omega)
      have hbo := beatsOthers_any gc 5 c2 s (fun x y => Bp.pref ps x y) _ wr hvr (by decide) hc2 (by omega)
      obtain ⟨ps', hps'⟩ : ∃ t, Bp.pop s = t := ⟨_, rfl⟩
      obtain ⟨pb, hpb⟩ : ∃ t, Bp.pop b = t := ⟨_, rfl⟩
      rw [hps'] at ho1
      rw [hpb] at ho2
      have Ho1 := Lib.hid ho1
      have Ho2 := Lib.hid ho2
      have Hbo := Lib.hid hbo
      have Hps := Lib.hid hps'
      have Hpb := Lib.hid hpb
      clear ho1 ho2 hbo hps' hpb
      by_cases hpp : ps' < pb
      · have d1 : decide ((ps' : Int) < (pb : Int)) = true := decide_eq_true (by omega)
        go_wp2_with fail
        with_reducible refine ((Ho1.out _)).mono ?_
        rintro e w1 ⟨rfl, rfl⟩
        go_wp2_with fail
        with_reducible refine ((Ho2.out _)).mono ?_
        rintro e w2 ⟨rfl, rfl⟩
        go_wp2_with fail
        with_reducible refine Hbo.out.mono ?_
        rintro e w3 ⟨v, rfl, hv3, hd3⟩
        have Hv3 := Lib.hid hv3
        clear hv3
        cases v
        · go_wp2_with fail
          go_roundw
          case rel => exact ⟨b, s + 1, rfl, by go_num, by omega, by omega, hb1, hbN, ⟨hgood.out.1, fun q h1 h2 h3 => by
            by_cases e : q = s
            · subst e
              have := Hv3.out.2 h3
              cases this
            · exact hgood.out.2 q h1 (by omega) h3⟩, hd.trans hd3⟩
          case measure => simp [intOf]; omega
        · go_wp2_with fail
          go_roundw
          case rel => exact ⟨s, s + 1, rfl, by go_num, by omega, by omega, hs1, hlt, ⟨(by first | exact Hv3.out.1 rfl | exact Hv3.out.1 trivial), fun q h1 h2 h3 => by
            by_cases e : q = s
            · subst e; exact Nat.le_refl _
            · have := hgood.out.2 q h1 (by omega) h3
              rw [Hpb.out] at this
              rw [Hps.out]
              omega⟩, hd.trans hd3⟩
          case measure => simp [intOf]; omega
      · have d1 : decide ((ps' : Int) < (pb : Int)) = false := decide_eq_false (by omega)
        go_wp2_with fail
        with_reducible refine ((Ho1.out _)).mono ?_
        rintro e w1 ⟨rfl, rfl⟩
        go_wp2_with fail
        with_reducible refine ((Ho2.out _)).mono ?_
        rintro e w2 ⟨rfl, rfl⟩
        go_wp2_with fail
        go_roundw
        case rel => exact ⟨b, s + 1, rfl, by go_num, by omega, by omega, hb1, hbN, ⟨hgood.out.1, fun q h1 h2 h3 => by
          by_cases e : q = s
          · subst e
            rw [Hpb.out, Hps.out]
            omega
          · exact hgood.out.2 q h1 (by omega) h3⟩, hd⟩
        case measure => simp [intOf]; omega
    · have hsN' : s = 32 := by omega
      have hsame := Htop.out b hb1 hbN hgood.out.1 (fun q h1 h2 h3 => hgood.out.2 q h1 (by omega) h3)
      have Hsame := Lib.hid hsame
      obtain ⟨W, hW⟩ : ∃ W, w0.heap.size = W := ⟨_, rfl⟩
      have hbW := hd.below W
      have own0 : Own wr W (.slice none 0 0) 0 (Bp.picks (Bp.isIn b) 0) := Own.nil _ _
      subst hsN'
      obtain ⟨wb, rfl⟩ : ∃ wo : World, wo = wr := ⟨_, rfl⟩
      clear hsame hgood hv hvr
      go_wp2_with fail
      go_loopw [8, 40] (fun v i wr => ∃ (x : Nat) (A3 : Option Addr) (k3 c3 : Nat), x ≤ 5 ∧ v = .slice A3 k3 c3 ∧ k3 ≤ c3 ∧ i = .int .i64 x ∧ k3 ≤ x ∧ Own wr W (.slice A3 k3 c3) k3 (Bp.picks (Bp.isIn b) x) ∧ Below W w0 wr) (fun _ i _ => 5 - (intOf i).toNat)
      case atStart => exact ⟨0, _, 0, 0, Nat.zero_le _, rfl, Nat.le_refl _, rfl, Nat.le_refl _, own0, hbW⟩
      case round =>
        obtain ⟨x, A3, k3, c3, hx, rfl, hkc, rfl, hkx, hown, hb⟩ := hrel
        clear own0 hbW
        have hz := hb.size
        by_cases hxl : x < 5
        · have i1 : (0 : Int) ≤ (x : Int) := by omega
          have bx := Bp.shr_and b x (by omega)
          have Hp := Lib.hid (show Bp.picks (Bp.isIn b) (x + 1) = if Bp.isIn b x then Bp.picks (Bp.isIn b) x ++ [(x : Int)] else Bp.picks (Bp.isIn b) x from rfl)
          obtain ⟨t, ht⟩ : ∃ t, Bp.isIn b x = t := ⟨_, rfl⟩
          rw [ht] at bx Hp
          clear ht
          cases t
          · rw [if_neg (by simp)] at bx
            go_wp2_with fail
            go_roundw
            case rel => exact ⟨x + 1, A3, k3, c3, by omega, by go_num, by omega, by go_num, by omega, by rw [Hp.out]; exact hown, hb⟩
            case measure => simp [intOf]; omega
          · rw [if_pos rfl] at bx
            go_wp2_with (at_builtin; refine wpList_append_own _ rfl (.tmp 48) (.tmp 50) 31 rfl W 3 i0 _ 1 8 Try.underlying31 hi0 hz0 hz1 hz2 rfl (by decide) (.slice A3 k3 c3) k3 _ rfl (hown.row.alloc _) ⟨wr.heap.size, 0, none⟩ 1 1 [.int .i64 (x : Int)] rfl rfl (cell_one_new _ _ _) (by simp [Value.oneCell']) (by unfold maxLen; omega) (by omega) (by simp; omega) ?_; intro v1 w6 hown6 hg6 _; obtain ⟨A4, c4, rfl, hkc1⟩ := own_slice hown6)
            go_roundw
            case rel => exact ⟨_, _, _, ⟨x + 1, by omega, A4, k3 + 1, c4, rfl, by omega, by go_num, by omega, (by rw [Hp.out]; (first | rw [if_pos rfl] | rw [if_pos trivial]); unfold Own; rw [List.map_append]; exact hown6), (hb.alloc (by omega) _).grown hg6 (by simp; omega) (fun b e => (hown.row.lt b e).1)⟩, rfl, rfl, by go_num⟩
            case measure => simp [intOf]; omega
        · have hxm : x = 5 := by omega
          have hfin : Bp.picks (Bp.isIn b) x = Bp.tops ps 5 := by
            rw [hxm]
            exact Bp.picks_congr (fun j hj => Hsame.out j hj)
          rw [hfin] at hown
          clear hfin hxm
          go_wp2_with fail
          go_ret
          exact ⟨A3, k3, c3, rfl, hkc, by omega, by rw [cres_yes rfl]; exact hown.base (by omega), hB0.trans (hb.mono (by omega))⟩
theorem iPairTop_any (A : Option Addr) (n c : Nat) (mi : Int) (ps : List Bp.Pile) (w : World) (h : Piles w w.heap.size A n ps) (hn : n ≤ 1048576) (hnc : n ≤ c) :
    Calls Try.prog 29 #[.slice A n c, .int .i64 mi] w (ListRes (Bp.fits ps mi) (Bp.tops ps mi.toNat) w) := by
  cases hf : Bp.fits ps mi
  · have Hf := Lib.hid hf
    go_enter Try.func29, Try.ntmps29
    go_wp2_with (go_at_call 51; refine (pilesFit_any A n c mi ps _ h hn hnc).mono ?_; rintro e w1 ⟨rfl, hb1⟩)
    go_ret
    exact ⟨none, 0, 0, rfl, Nat.le_refl _, by omega, by rw [cres_no rfl]; exact Own.nil _ _, hb1⟩
  · have hm := Bp.fits_n hf
    rcases (show mi = 1 ∨ mi = 2 ∨ mi = 3 ∨ mi = 4 ∨ mi = 5 by omega) with rfl | rfl | rfl | rfl | rfl
    · exact iPairTop_1 A n c ps w h hn hnc hf
    · exact iPairTop_2 A n c ps w h hn hnc hf
    · exact iPairTop_3 A n c ps w h hn hnc hf
    · exact iPairTop_4 A n c ps w h hn hnc hf
    · exact iPairTop_5 A n c ps w h hn hnc hf
end Go.Proofs.Ytdcfpobjiofnmaa
