/-
  The walks of PlaceWinner: the program's and the reference's.
-/
import Derived.Test.YtdcfpobjiofnmaaPlural
namespace Go.Proofs.Ytdcfpobjiofnmaa
set_option linter.unusedVariables false
open Go.RowKit

namespace Bp
theorem counted_len (pts : Nat → Nat → Int) (ps : List Pile) (n : Nat) : (counted pts ps n).length = n := countTo_len pts ps n _
theorem counted_bd {pts : Nat → Nat → Int} {ps : List Pile} {n : Nat} (hv : psval ps = true) (hp : ∀ j k, 0 ≤ pts j k ∧ pts j k ≤ 5) : Bd (counted pts ps n) 29700 := by
  have h := countTo_bd (n := n) hv hp ps.length (Nat.le_refl _)
  have := ((psval_iff ps).1 hv).1
  exact h.mono (by omega)
/-- the winner by places, or -1 -/
def plwin (ps : List Pile) (lots : List Int) : Int := if ok ps lots then best (counted (ptsPlace lots.length) ps lots.length) lots else -1
theorem plwin_yes {ps : List Pile} {lots : List Int} (h : ok ps lots = true) : plwin ps lots = best (counted (ptsPlace lots.length) ps lots.length) lots := by simp [plwin, h]
theorem plwin_no {ps : List Pile} {lots : List Int} (h : ok ps lots = false) : plwin ps lots = -1 := by simp [plwin, h]
theorem cres_len {k : Bool} {zs : List Int} {n : Nat} (hk : k = true) (h : (cres k zs).length = n) : zs.length = n := by rw [cres_yes hk] at h; exact h
end Bp

set_option maxRecDepth 100000 in
set_option maxHeartbeats 400000 in
theorem iPlaceWinner_any (A : Option Addr) (n c : Nat) (A' : Option Addr) (m c' : Nat) (ps : List Bp.Pile) (lots : List Int) (w : World) (h : Piles w w.heap.size A n ps) (hn : n ≤ 1048576) (hnc : n ≤ c) (h' : Ints w w.heap.size A' m lots) (hm : m ≤ 1048576) (hmc : m ≤ c') :
    Calls Try.prog 20 #[.slice A n c, .slice A' m c'] w fun e w' => e = .returned (.int .i64 (Bp.plwin ps lots)) ∧ Below w.heap.size w w' := by
  have hl := h'.1
  have Hl := Lib.hid hl
  cases hf : Bp.fits ps m
  · have H := Lib.hid (Bp.plwin_no (show Bp.ok ps lots = false by unfold Bp.ok; rw [hl, hf, Bool.and_false]))
    have hcall := iPlaceCounts_any A n c m ps w h hn hnc
    rw [hf] at hcall
    have Hcall := Lib.hid hcall
    clear hl hf hcall
    go_enter Try.func20, Try.ntmps20
    go_wp2_with fail
    refine Hcall.out.mono ?_
    rintro e w1 ⟨A1, n1, c1, rfl, hc1, hn1, hown, hb1⟩
    go_wp2_with fail
    go_ret
    exact ⟨ret_int H.out.symm, hb1⟩
  · have hcall := iPlaceCounts_any A n c m ps w h hn hnc
    rw [hf] at hcall
    have Hcall := Lib.hid hcall
    cases hlv : Bp.lval lots
    · have H := Lib.hid (Bp.plwin_no (show Bp.ok ps lots = false by unfold Bp.ok; rw [hlv, Bool.false_and]))
      have Hlv := Lib.hid hlv
      clear hl hf hcall
      go_enter Try.func20, Try.ntmps20
      go_wp2_with fail
      refine Hcall.out.mono ?_
      rintro e w1 ⟨A1, n1, c1, rfl, hc1, hn1, hown, hb1⟩
      go_wp2_with (go_at_call 47; refine (iLotsValid_any A' m c' lots _ _ (h'.below hb1) (by omega) hmc).mono ?_; rintro e w' ⟨rfl, rfl⟩)
      go_ret
      exact ⟨ret_int H.out.symm, hb1⟩
    · have H := Bp.plwin_yes (show Bp.ok ps lots = true by unfold Bp.ok; rw [hlv, hl, hf]; rfl)
      rw [hl] at H
      have H := Lib.hid H
      have Hlv := Lib.hid hlv
      clear hl hf hcall
      go_enter Try.func20, Try.ntmps20
      go_wp2_with fail
      refine Hcall.out.mono ?_
      rintro e w1 ⟨A1, n1, c1, rfl, hc1, hn1, hown, hb1⟩
      have hnm := Bp.cres_len rfl hown.len
      rw [Int.toNat_natCast, Bp.counted_len] at hnm
      subst hnm
      rw [cres_yes rfl, Int.toNat_natCast] at hown
      have hi := hown.ints
      clear hown
      go_wp2_with (go_at_call 47; refine (iLotsValid_any A' _ c' lots _ _ (h'.below hb1) (by omega) hmc).mono ?_; rintro e w' ⟨rfl, rfl⟩)
      refine (greatest_any A1 A' _ c1 _ c' _ lots _ _ _ hi (h'.below hb1) Hlv.out rfl).mono ?_
      rintro e w4 ⟨rfl, hd4⟩
      go_wp2_with fail
      go_ret
      exact ⟨ret_int H.out.symm, hb1.trans (hd4.below _)⟩

set_option maxRecDepth 100000 in
set_option maxHeartbeats 400000 in
theorem sPlaceWinner_any (A : Option Addr) (n c : Nat) (A' : Option Addr) (m c' : Nat) (ps : List Bp.Pile) (lots : List Int) (w : World) (h : Piles w w.heap.size A n ps) (hn : n ≤ 1048576) (h' : Ints w w.heap.size A' m lots) (hm : m ≤ 1048576) (hmc : m ≤ c') :
    Calls Try.prog 21 #[.slice A n c, .slice A' m c'] w fun e w' => e = .returned (.int .i64 (Bp.plwin ps lots)) ∧ Below w.heap.size w w' := by
  have hl := h'.1
  cases hok : Bp.ok ps lots
  · have H := Lib.hid (Bp.plwin_no hok)
    rcases Bp.ok_no hok with hlv | ⟨hlv, hf⟩
    · have Hlv := Lib.hid hlv
      clear hok hl
      go_enter Try.func21, Try.ntmps21
      go_wp2_with (go_at_call 48; refine (sLotsValid_any A' m c' lots _ _ h' (by omega) hmc).mono ?_; rintro e w1 ⟨rfl, hd1⟩)
      go_ret
      exact ⟨ret_int H.out.symm, hd1.below _⟩
    · rw [hl] at hf
      have Hlv := Lib.hid hlv
      have Hf := Lib.hid hf
      clear hok hl
      go_enter Try.func21, Try.ntmps21
      go_wp2_with (go_at_call 48; refine (sLotsValid_any A' m c' lots _ _ h' (by omega) hmc).mono ?_; rintro e w1 ⟨rfl, hd1⟩)
      have hb1 := hd1.below w.heap.size
      have hs1 := hb1.size
      refine (l3Fits_any A n c m ps _ ((h.below hb1).mono hs1) hn).mono ?_
      rintro e w2 ⟨rfl, hb2⟩
      go_wp2_with fail
      go_ret
      exact ⟨ret_int H.out.symm, hb1.trans (hb2.mono hs1)⟩
  · have H := Bp.plwin_yes hok
    have hlv := Bp.ok_lval hok
    have hf := Bp.ok_fits hok
    have hbd : Bp.Bd (Bp.counted (Bp.ptsPlace lots.length) ps lots.length) 29700 := Bp.counted_bd (Bp.fits_val hf) (Bp.ptsPlace_bd _)
    have hfl := Bp.counted_len (Bp.ptsPlace lots.length) ps lots.length
    have hbest := Bp.first_best _ lots 29700 hlv hfl hbd
    rw [hfl] at hbest
    rw [← H] at hbest
    have hm5 := Bp.lval_n hlv
    have hr := fun j (hj : j < m) => Bp.lval_at hlv j (by rw [hl]; exact hj)
    rw [hl] at hf hm5 hbest hbd hr
    obtain ⟨m1, m5⟩ := hm5
    have Hf := Lib.hid hf
    have Hlv := Lib.hid hlv
    have Hbd := Lib.hid hbd
    have Hbest := Lib.hid hbest
    have Hr := Lib.hid hr
    clear hok hl H hbd hfl hbest hr
    go_enter Try.func21, Try.ntmps21
    go_wp2_with (go_at_call 48; refine (sLotsValid_any A' m c' lots _ _ h' (by omega) hmc).mono ?_; rintro e w1 ⟨rfl, hd1⟩)
    have hb1 := hd1.below w.heap.size
    have hs1 := hb1.size
    refine (l3Fits_any A n c m ps _ ((h.below hb1).mono hs1) hn).mono ?_
    rintro e w2 ⟨rfl, hb2⟩
    have hs2 := hb2.size
    have hB2 := hb1.trans (hb2.mono hs1)
    go_wp2_with fail
    refine (l14Places_any A n c m ps _ ((h.below hB2).mono (by omega)) hn Hf.out).mono ?_
    rintro e w3 ⟨g, rfl, hg, hown, hb3⟩
    have hs3 := hb3.size
    have hB3 := hB2.trans (hb3.mono (by omega))
    go_wp2_with fail
    refine (l11All_any m _ (by omega)).mono ?_
    rintro e w4 ⟨A4, c4, rfl, hc4, own4, hb4⟩
    have hs4 := hb4.size
    have hB4 := hB3.trans (hb4.mono (by omega))
    go_wp2_with fail
    refine (l11Most_any _ A4 m m m c4 _ _ _ (hown.keep hb4).ints own4.bools (by omega) (Nat.le_refl _) 29700 Hbd.out (by omega)).mono ?_
    rintro e w5 ⟨A5, c5, rfl, hc5, own5, hb5⟩
    have hs5 := hb5.size
    have hB5 := hB4.trans (hb5.mono (by omega))
    go_wp2_with (go_at_call 42; refine (l4First_any A' A5 m c' m c5 lots _ _ _ _ (h'.below hB5) own5.bools (by omega) Hr.out).mono ?_; rintro e w6 ⟨rfl, rfl⟩)
    go_ret
    exact ⟨ret_int Hbest.out, hB5⟩
end Go.Proofs.Ytdcfpobjiofnmaa
