/-
  The walks of PairWinner, of the program and of the reference.
-/
import Derived.Test.YtdcfpobjiofnmaaTopZ
import Derived.Test.YtdcfpobjiofnmaaWinPlain
namespace Go.Proofs.Ytdcfpobjiofnmaa
set_option linter.unusedVariables false
open Go.RowKit

/-- the winner of pairs, or -1, at all arguments -/
def Bp.pwinner (ps : List Bp.Pile) (q : Int) : Int := if Bp.fits ps q then Bp.pairWin ps q.toNat else -1
theorem Bp.pwinner_yes {ps : List Bp.Pile} {q : Int} (h : Bp.fits ps q = true) : Bp.pwinner ps q = Bp.pairWin ps q.toNat := by simp [Bp.pwinner, h]
theorem Bp.pwinner_no {ps : List Bp.Pile} {q : Int} (h : Bp.fits ps q = false) : Bp.pwinner ps q = -1 := by simp [Bp.pwinner, h]
set_option maxRecDepth 100000 in
set_option maxHeartbeats 400000 in
theorem iPairWinner_any (A : Option Addr) (n c : Nat) (mi : Int) (ps : List Bp.Pile) (w : World) (h : Piles w w.heap.size A n ps) (hn : n ≤ 1048576) (hnc : n ≤ c) :
    Calls Try.prog 10 #[.slice A n c, .int .i64 mi] w fun e w' => e = .returned (.int .i64 (Bp.pwinner ps mi)) ∧ Below w.heap.size w w' := by
  have hcall := iPairTop_any A n c mi ps w h hn hnc
  have Hcall := Lib.hid hcall
  clear hcall
  go_enter Try.func10, Try.ntmps10
  go_wp2_with fail
  refine Hcall.out.mono ?_
  rintro e w1 ⟨A1, n1, c1, rfl, hc1, hn1, hown, hb1⟩
  have hi := hown.ints
  have hlen := hi.1
  by_cases h1 : n1 = 1
  · obtain ⟨g, o, z, rfl, _, hc, hz⟩ := hi.at (k := 0) (by omega)
    have hv : Bp.pwinner ps mi = z := by
      cases hf : Bp.fits ps mi
      · rw [hf, cres_no rfl] at hlen
        simp at hlen
        omega
      · rw [hf, cres_yes rfl] at hlen
        have hz' := hz.out
        rw [hf, cres_yes rfl] at hz'
        rw [Bp.pwinner_yes hf]
        unfold Bp.pairWin
        rw [if_pos (by omega)]
        exact hz'
    have Hv := Lib.hid hv
    have d1 : ((n1 : Int) == 1) = true := by rw [beq_iff_eq]; omega
    have i2 : (0 : Int) < (n1 : Int) := by omega
    have i3 : 0 < n1 := by omega
    have H1 := Lib.hid h1
    clear hv hown hlen h1
    rw [Nat.add_zero] at hc
    go_wp2_with fail
    go_ret
    exact ⟨ret_int Hv.out.symm, hb1⟩
  · have hv : Bp.pwinner ps mi = -1 := by
      cases hf : Bp.fits ps mi
      · exact Bp.pwinner_no hf
      · rw [hf, cres_yes rfl] at hlen
        rw [Bp.pwinner_yes hf]
        unfold Bp.pairWin
        rw [if_neg (by omega)]
    have Hv := Lib.hid hv
    have d1 : ((n1 : Int) == 1) = false := by rw [beq_eq_false_iff_ne]; omega
    have H1 := Lib.hid h1
    clear hv hown hlen h1
    go_wp2_with fail
    go_ret
    exact ⟨ret_int Hv.out.symm, hb1⟩
set_option maxRecDepth 100000 in
set_option maxHeartbeats 400000 in
theorem l13Range_any (m : Nat) (w : World) (m5 : m ≤ 5) :
    Calls Try.prog 33 #[.int .i64 (m : Int)] w fun e w' => ∃ (A : Option Addr) (c : Nat), e = .returned (.slice A m c) ∧ m ≤ c ∧ Own w' w.heap.size (.slice A m c) m (Bp.picks (fun _ => true) m) ∧ Below w.heap.size w w' := by
  obtain ⟨i0, hi0, hz0, hz1, hz2⟩ := info_parts int_info
  have hbl : Below w.heap.size w (w.alloc (.cells #[] 3)) := (Below.refl _ _).alloc (Nat.le_refl _) _
  have hlit := int_lit (Nat.le_refl w.heap.size)
  obtain ⟨wl, hwl⟩ : ∃ wl, w.alloc (.cells #[] 3) = wl := ⟨_, rfl⟩
  rw [hwl] at hbl hlit
  obtain ⟨W, hW⟩ : ∃ W, w.heap.size = W := ⟨_, rfl⟩
  go_enter Try.func33, Try.ntmps33
  go_wp2_with fail
  rw [hW] at hbl hlit
  go_loopw [3, 4] (fun v i wr => ∃ (x : Nat) (A3 : Option Addr) (c3 : Nat), x ≤ m ∧ v = .slice A3 x c3 ∧ x ≤ c3 ∧ i = .int .i64 x ∧ Own wr W (.slice A3 x c3) x (Bp.picks (fun _ => true) x) ∧ Below W w wr) (fun _ i _ => m - (intOf i).toNat)
  case atStart => exact ⟨0, _, 0, Nat.zero_le _, rfl, Nat.le_refl _, rfl, hlit, hbl⟩
  case round =>
    obtain ⟨x, A3, c3, hx, rfl, hkc, rfl, hown, hb⟩ := hrel
    clear hlit hbl
    have hz := hb.size
    by_cases hxl : x < m
    · have Hp := Lib.hid (show Bp.picks (fun _ => true) (x + 1) = Bp.picks (fun _ => true) x ++ [(x : Int)] from rfl)
      go_wp2_with (at_builtin; refine wpList_append_own _ rfl (.tmp 11) (.tmp 13) 31 rfl W 3 i0 _ 1 8 Try.underlying31 hi0 hz0 hz1 hz2 rfl (by decide) (.slice A3 x c3) x _ rfl (hown.row.alloc _) ⟨wr.heap.size, 0, none⟩ 1 1 [.int .i64 (x : Int)] rfl rfl (cell_one_new _ _ _) (by simp [Value.oneCell']) (by unfold maxLen; omega) (by omega) (by simp; omega) ?_; intro v1 w6 hown6 hg6 _; obtain ⟨A4, c4, rfl, hkc1⟩ := own_slice hown6)
      go_roundw
      case rel => exact ⟨x + 1, A4, c4, by omega, by go_num, by omega, by go_num, by rw [Hp.out]; unfold Own; rw [List.map_append]; exact hown6, (hb.alloc (by omega) _).grown hg6 (by simp; omega) (fun b e => (hown.row.lt b e).1)⟩
      case measure => simp [intOf]; omega
    · have hxm : x = m := by omega
      have HW := Lib.hid hW
      have hfin : Own wr W (.slice A3 m c3) m (Bp.picks (fun _ => true) m) := by rw [hxm] at hown; exact hown
      have hmx : m = x := hxm.symm
      clear hxm
      subst hmx
      go_wp2_with fail
      go_ret
      exact ⟨A3, c3, rfl, hkc, by rw [HW.out]; exact hfin, by rw [HW.out]; exact hb⟩
set_option maxRecDepth 100000 in
set_option maxHeartbeats 1000000 in
theorem l13Wins_any (gc m cc x : Nat) (A : Option Addr) (c : Nat) (f : Nat → Nat → Int) (B B' : Nat) (w : World) (h : TabV w B (some ⟨gc, 0, none⟩) m (Bp.tabs m f)) (ho : Ints w B' A m (Bp.picks (fun _ => true) m)) (m5 : m ≤ 5) (hcc : m ≤ cc) (hxm : x < m) :
    Calls Try.prog 32 #[.slice (some ⟨gc, 0, none⟩) m cc, .int .i64 x, .slice A m c] w fun e w' => e = .returned (.bool (Bp.allTo (fun y => (y == x) || decide (f y x < f x y)) m)) ∧ Drawn w w' := by
  go_enter Try.func32, Try.ntmps32
  go_wp2_with fail
  go_loopw [7] (fun i wr => ∃ y : Nat, y ≤ m ∧ i = .int .i64 y ∧ Hid (∀ j, j < y → ((j == x) || decide (f j x < f x j)) = true) ∧ Drawn w wr) (fun i _ => m - (intOf i).toNat)
  case atStart => exact ⟨0, Nat.zero_le _, rfl, (fun j hj => absurd hj (by omega)), Drawn.refl _⟩
  case round =>
    obtain ⟨y, hy, rfl, hall, hd⟩ := hrel
    by_cases hyl : y < m
    · have i1 : (0 : Int) ≤ (x : Int) := by omega
      have i2 : (x : Int) < (m : Int) := by omega
      have i3 : (0 : Int) ≤ (y : Int) := by omega
      have i4 : (y : Int) < (m : Int) := by omega
      obtain ⟨go, oo, z, rfl, _, ho1, hzo⟩ := (ho.below (hd.below B')).at hyl
      have ez : z = (y : Int) := by rw [← hzo.out]; exact Bp.picks_all_at m y hyl
      subst ez
      obtain ⟨ga, oa, ca, a1, ar⟩ := (h.below (hd.below B)).row_of rfl hxm
      obtain ⟨gb, ob, cb, b1, br⟩ := (h.below (hd.below B)).row_of rfl hyl
      have a2 := ar y hyl
      have b2 := br x hxm
      simp only [Nat.zero_add] at a1 b1
      have hbad : ((y == x) || decide (f y x < f x y)) = false → Bp.allTo (fun y => (y == x) || decide (f y x < f x y)) m = false := fun e => by
        cases hq : Bp.allTo (fun y => (y == x) || decide (f y x < f x y)) m
        · rfl
        · have := (Bp.allTo_iff _ _).1 hq y hyl
          rw [e] at this
          cases this
      obtain ⟨v1, hv1⟩ : ∃ z, f x y = z := ⟨_, rfl⟩
      obtain ⟨v2, hv2⟩ : ∃ z, f y x = z := ⟨_, rfl⟩
      rw [hv1] at a2
      rw [hv2] at b2
      have Hv1 := Lib.hid hv1
      have Hv2 := Lib.hid hv2
      have Hbad := Lib.hid hbad
      clear ar br hv1 hv2 hbad
      by_cases hyx : y = x
      · have d1 : ((y : Int) != (x : Int)) = false := by simp; omega
        have Hyx := Lib.hid hyx
        clear hyx
        go_wp2_with fail
        go_quiet (fail)
        go_wp2_with fail
        go_roundw
        case rel => exact ⟨y + 1, by omega, by go_num, (fun j hj => by
          by_cases e : j = y
          · subst e; rw [Hyx.out]; simp
          · exact hall.out j (by omega)), hd.drewN _⟩
        case measure => simp [intOf]; omega
      · have d1 : ((y : Int) != (x : Int)) = true := by simp; omega
        have hne : (y == x) = false := by simpa using hyx
        have Hne := Lib.hid hne
        clear hne hyx
        by_cases hle : v1 ≤ v2
        · have d2 : decide (v1 ≤ v2) = true := decide_eq_true hle
          have Hle := Lib.hid hle
          go_wp2_with fail
          go_quiet (fail)
          go_wp2_with fail
          go_ret
          exact ⟨ret_bool (Hbad.out (by rw [Hne.out, Bool.false_or, Hv1.out, Hv2.out]; exact decide_eq_false (by have := Hle.out; omega))).symm, hd.drewN _⟩
        · have d2 : decide (v1 ≤ v2) = false := decide_eq_false hle
          have Hle := Lib.hid hle
          go_wp2_with fail
          go_quiet (fail)
          go_wp2_with fail
          go_roundw
          case rel => exact ⟨y + 1, by omega, by go_num, (fun j hj => by
            by_cases e : j = y
            · subst e; rw [Hv1.out, Hv2.out, decide_eq_true (by have := Hle.out; omega), Bool.or_true]
            · exact hall.out j (by omega)), hd.drewN _⟩
          case measure => simp [intOf]; omega
    · have hym : y = m := by omega
      have He := Lib.hid ((Bp.allTo_iff (fun y => (y == x) || decide (f y x < f x y)) m).2 (fun j hj => hall.out j (by omega)))
      clear hym
      go_wp2_with fail
      go_ret
      exact ⟨ret_bool He.out.symm, hd⟩
set_option maxRecDepth 100000 in
set_option maxHeartbeats 1000000 in
theorem sPairWinner_any (A : Option Addr) (n c : Nat) (mi : Int) (ps : List Bp.Pile) (w : World) (h : Piles w w.heap.size A n ps) (hn : n ≤ 1048576) :
    Calls Try.prog 11 #[.slice A n c, .int .i64 mi] w fun e w' => e = .returned (.int .i64 (Bp.pwinner ps mi)) ∧ Below w.heap.size w w' := by
  have hfc := l3Fits_any A n c mi ps w h hn
  cases hf : Bp.fits ps mi
  · have Hno := Lib.hid (Bp.pwinner_no hf)
    rw [hf] at hfc
    have Hfc := Lib.hid hfc
    clear hf hfc
    go_enter Try.func11, Try.ntmps11
    go_wp2_with fail
    refine Hfc.out.mono ?_
    rintro e w1 ⟨rfl, hb1⟩
    go_wp2_with fail
    go_ret
    exact ⟨ret_int Hno.out.symm, hb1⟩
  · have hm := Bp.fits_n hf
    have hyes := Bp.pwinner_yes hf
    rw [hf] at hfc
    obtain ⟨m, rfl⟩ := Int.eq_ofNat_of_zero_le (show 0 ≤ mi by omega)
    rw [Int.toNat_natCast] at hyes
    have m5 : m ≤ 5 := by omega
    have m1 : 1 ≤ m := by omega
    have Hf := Lib.hid hf
    have Hfc := Lib.hid hfc
    have Hyes := Lib.hid hyes
    clear hf hfc hyes
    go_enter Try.func11, Try.ntmps11
    go_wp2_with fail
    refine Hfc.out.mono ?_
    rintro e w1 ⟨rfl, hb1⟩
    have hs1 := hb1.size
    go_wp2_with fail
    refine (sPairs_any A n c m ps _ ((h.below hb1).mono hs1) hn Hf.out).mono ?_
    rintro e w0 ⟨gc, c2, rfl, hc2, hg2, hownt, hb2⟩
    have hv := hownt.view
    unfold Bp.pairs at hv
    have hB0 := hb1.trans (hb2.mono hs1)
    have hs2 := hB0.size
    clear hownt hb1 hb2
    go_wp2_with fail
    go_loopw [6] (fun i wr => ∃ x : Nat, x ≤ m ∧ i = .int .i64 x ∧ Hid (∀ j, j < x → Bp.winsB ps m j = false) ∧ Below w0.heap.size w0 wr) (fun i _ => m - (intOf i).toNat)
    case atStart => exact ⟨0, Nat.zero_le _, rfl, (fun j hj => absurd hj (by omega)), Below.refl _ _⟩
    case round =>
      obtain ⟨x, hx, rfl, hall, hb⟩ := hrel
      have hz := hb.size
      by_cases hxl : x < m
      · go_wp2_with fail
        refine (l13Range_any m _ m5).mono ?_
        rintro e w4 ⟨A4, c4, rfl, hc4, own4, hb4⟩
        have hB4 := hb.trans (hb4.mono hz)
        have hcall := l13Wins_any gc m c2 x A4 c4 (fun x y => Bp.pref ps x y) _ _ w4 (hv.below hB4) own4.ints m5 hc2 hxl
        have Hcall := Lib.hid hcall
        obtain ⟨t, ht⟩ : ∃ t, Bp.winsB ps m x = t := ⟨_, rfl⟩
        have ht2 : Bp.allTo (fun y => (y == x) || decide (Bp.pref ps y x < Bp.pref ps x y)) m = t := ht
        have Ht := Lib.hid ht
        have Ht2 := Lib.hid ht2
        clear hcall ht ht2
        go_wp2_with fail
        refine Hcall.out.mono ?_
        rintro e w5 ⟨rfl, hd5⟩
        rw [Ht2.out]
        cases t
        · go_wp2_with fail
          go_roundw
          case rel => exact ⟨x + 1, by omega, by go_num, (fun j hj => by
            by_cases e : j = x
            · subst e; exact Ht.out
            · exact hall.out j (by omega)), hB4.trans (hd5.below _)⟩
          case measure => simp [intOf]; omega
        · have He := Lib.hid (Bp.pairWin_yes ps hxl Ht.out)
          go_wp2_with fail
          go_ret
          exact ⟨ret_int (by rw [Hyes.out, He.out]), hB0.trans ((hB4.trans (hd5.below _)).mono (by omega))⟩
      · have He := Lib.hid (Bp.pairWin_no ps (n := m) (fun j hj => hall.out j (by omega)))
        go_wp2_with fail
        go_ret
        exact ⟨ret_int (by rw [Hyes.out, He.out]), hB0.trans (hb.mono (by omega))⟩
end Go.Proofs.Ytdcfpobjiofnmaa
