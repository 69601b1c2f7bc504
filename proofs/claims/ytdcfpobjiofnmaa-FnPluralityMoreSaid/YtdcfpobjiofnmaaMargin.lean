/-
  The walks of PluralityMargin: the program's and the reference's.
-/
import Derived.Test.YtdcfpobjiofnmaaPlural
namespace Go.Proofs.Ytdcfpobjiofnmaa
set_option linter.unusedVariables false
open Go.RowKit

set_option maxRecDepth 100000 in
set_option maxHeartbeats 400000 in
theorem iPluralityMargin_any (A : Option Addr) (n c : Nat) (A' : Option Addr) (m c' : Nat) (ps : List Bp.Pile) (lots : List Int) (w : World) (h : Piles w w.heap.size A n ps) (hn : n ≤ 1048576) (hnc : n ≤ c) (h' : Ints w w.heap.size A' m lots) (hm : m ≤ 1048576) (hmc : m ≤ c') :
    Calls Try.prog 26 #[.slice A n c, .slice A' m c'] w fun e w' => e = .returned (.int .i64 (Bp.pmar ps lots)) ∧ Below w.heap.size w w' := by
  have hl := h'.1
  cases hok : Bp.ok ps lots
  · have H := Lib.hid (Bp.pmar_no hok)
    have hw := Bp.pwin_no hok
    have hcall := iPluralityWinner_any A n c A' m c' ps lots w h hn hnc h' hm hmc
    rw [hw] at hcall
    clear hok hl hw
    go_enter Try.func26, Try.ntmps26
    go_wp2_with (go_at_call 23; refine hcall.mono ?_; rintro e w1 ⟨rfl, hb1⟩)
    go_ret
    exact ⟨ret_int H.out.symm, hb1⟩
  · have H := Bp.pmar_yes hok
    have hlv := Bp.ok_lval hok
    have hf := Bp.ok_fits hok
    have hw := Bp.pwin_yes hok
    have hbr := Bp.best_range (counts := Bp.firsts ps (Bp.fresh lots.length)) hlv
    have hbd : Bp.Bd (Bp.firsts ps (Bp.fresh lots.length)) 1188 := Bp.firsts_bd (Bp.fits_val hf)
    have hfl : (Bp.firsts ps (Bp.fresh lots.length)).length = lots.length := by rw [Bp.firsts_len, Bp.fresh_len]
    have hm5 := Bp.lval_n hlv
    have hcall := iPluralityWinner_any A n c A' m c' ps lots w h hn hnc h' hm hmc
    rw [hw] at hcall
    have hmar : Bp.margin (Bp.firsts ps (Bp.fresh lots.length)) lots = (Bp.firsts ps (Bp.fresh lots.length)).getD (Bp.best (Bp.firsts ps (Bp.fresh lots.length)) lots).toNat 0 - Bp.nextTo (Bp.firsts ps (Bp.fresh lots.length)) (Bp.best (Bp.firsts ps (Bp.fresh lots.length)) lots) lots.length := by
      rw [← hfl]; rw [hfl]; unfold Bp.margin; rw [hfl]
    rw [hl] at hf hm5 hbd hbr hcall H hmar
    obtain ⟨m1, m5⟩ := hm5
    obtain ⟨Z, hZ⟩ : ∃ Z, Bp.firsts ps (Bp.fresh m) = Z := ⟨_, rfl⟩
    rw [hZ] at hbr hcall H hbd hmar
    obtain ⟨b, hb⟩ : ∃ b, Bp.best Z lots = b := ⟨_, rfl⟩
    rw [hb] at hbr hcall hmar
    obtain ⟨bn, rfl⟩ := Int.eq_ofNat_of_zero_le hbr.1
    have hbm : bn < m := by omega
    have HZ := Lib.hid hZ
    have Hf := Lib.hid hf
    have Hbd := Lib.hid hbd
    have Hm := Lib.hid (H.trans hmar)
    clear hok hl H hlv hf hbd hfl hw hb hbr hZ hmar
    obtain ⟨i0, hi0, hz0, hz1, hz2⟩ := info_parts bool_info
    go_enter Try.func26, Try.ntmps26
    go_wp2_with (first | (go_at_call 23; refine hcall.mono ?_; rintro e w1 ⟨rfl, hb1⟩) | (at_make; refine wpList_make_full _ rfl (.tmp 17) (.tmp 17) 61 rfl _ 4 i0 _ 1 Try.underlying61 hi0 hz0 hz1 .i64 .i64 m m m rfl rfl rfl rfl (by rw [hz2]; omega) (by unfold maxLen; omega) (Nat.le_refl _) ?_; intro w2 hown2 hg2))
    have hs1 := hb1.size
    have own2 := madeB_own hown2
    have hb2 : Below w1.heap.size w1 w2 := (Below.refl _ _).grown hg2 (Nat.le_refl _) (by simp)
    have hs2 := hb2.size
    have hB2 := hb1.trans (hb2.mono hs1)
    clear hown2 hg2
    refine (iFirsts_any A _ n c m m ps (Bp.fresh m) _ ((h.below hB2).mono (by omega)) own2.bools hn Hf.out).mono ?_
    rintro e w3 ⟨g, rfl, hg, hown, hb3⟩
    have hs3 := hb3.size
    have hB3 := hB2.trans (hb3.mono (by omega))
    rw [HZ.out] at hown
    have hi := hown.ints
    clear hown own2 hcall
    go_wp2_with fail
    go_loop [6, 22] (fun q i => ∃ k : Nat, k ≤ m ∧ i = .int .i64 k ∧ q = .int .i64 (Bp.nextTo Z bn k)) (fun _ i => m - (intOf i).toNat)
    case atStart => exact ⟨0, Nat.zero_le _, rfl, rfl⟩
    case round =>
      obtain ⟨k, hk, rfl, rfl⟩ := hrel
      have hnb := Bp.nextTo_bd Z bn 1188 Hbd.out k
      have Hs := Lib.hid (show Bp.nextTo Z bn (k + 1) = if (k : Int) = bn then Bp.nextTo Z bn k else max (Bp.nextTo Z bn k) (Z.getD k 0) from rfl)
      by_cases hlt : k < m
      · obtain ⟨g2, o2, z, hA, _, hc, hz⟩ := hi.at hlt
        injection hA with hA
        injection hA with e1 e2
        subst e1; subst e2
        rw [Nat.zero_add] at hc
        obtain ⟨x, hx⟩ : ∃ x, Bp.nextTo Z bn k = x := ⟨_, rfl⟩
        rw [hx] at hnb ⊢
        have Hx := Lib.hid hx
        clear hx
        by_cases hkb : k = bn
        · have d1 : ((k : Int) != (bn : Int)) = false := by simp; omega
          have Hkb := Lib.hid hkb
          clear hkb
          go_wp2_with fail
          go_round
          case rel => exact ⟨k + 1, by omega, by go_num, by rw [Hs.out, Hx.out, if_pos (by rw [Hkb.out])]⟩
          case measure => simp [intOf]; omega
        · have d1 : ((k : Int) != (bn : Int)) = true := by simp; omega
          have Hkb := Lib.hid hkb
          clear hkb
          go_wp2_with fail
          all_goals
            go_round
            case rel => exact ⟨k + 1, by omega, by go_num, by rw [Hs.out, Hx.out, hz.out, if_neg (show ¬ (k : Int) = (bn : Int) by have := Hkb.out; omega)]; first | rfl | (congr 1; omega)⟩
            case measure => simp [intOf]; omega
      · have hkm : k = m := by omega
        subst hkm
        obtain ⟨g2, o2, z, hA, _, hc, hz⟩ := hi.at hbm
        injection hA with hA
        injection hA with e1 e2
        subst e1; subst e2
        rw [Nat.zero_add] at hc
        have hzb := Hbd.out.nth bn
        rw [hz.out] at hzb
        obtain ⟨x, hx⟩ : ∃ x, Bp.nextTo Z bn k = x := ⟨_, rfl⟩
        rw [hx] at hnb ⊢
        have Hx := Lib.hid hx
        clear hx
        go_wp2_with fail
        try go_quiet (fail)
        go_wp2_with fail
        go_ret
        exact ⟨ret_int (by rw [Hm.out, Int.toNat_natCast, hz.out, Hx.out]), by first | exact hB3 | exact below_drewN hB3 _⟩

end Go.Proofs.Ytdcfpobjiofnmaa
