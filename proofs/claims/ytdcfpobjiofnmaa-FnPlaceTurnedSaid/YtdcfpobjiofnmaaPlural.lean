/-
  The walks of FirstCounts, PluralityWinner, PluralityMargin: the program's and the reference's.
-/
import Derived.Test.YtdcfpobjiofnmaaFirsts
import Derived.Test.YtdcfpobjiofnmaaMost
namespace Go.Proofs.Ytdcfpobjiofnmaa
set_option linter.unusedVariables false
open Go.RowKit

namespace Bp
/-- do piles and lots belong together? -/
def ok (ps : List Pile) (lots : List Int) : Bool := lval lots && fits ps lots.length
theorem ok_lval {ps : List Pile} {lots : List Int} (h : ok ps lots = true) : lval lots = true := by simp only [ok, Bool.and_eq_true] at h; exact h.1
theorem ok_fits {ps : List Pile} {lots : List Int} (h : ok ps lots = true) : fits ps lots.length = true := by simp only [ok, Bool.and_eq_true] at h; exact h.2
theorem ok_no {ps : List Pile} {lots : List Int} (h : ok ps lots = false) : lval lots = false ∨ (lval lots = true ∧ fits ps lots.length = false) := by
  simp only [ok, Bool.and_eq_false_iff] at h
  cases hl : lval lots
  · exact .inl rfl
  · rw [hl] at h
    exact .inr ⟨rfl, h.resolve_left (by simp)⟩
/-- nobody has left -/
def fresh (n : Nat) : List Bool := List.replicate n false
theorem fresh_len (n : Nat) : (fresh n).length = n := by simp [fresh]
/-- the winner, or -1 -/
def pwin (ps : List Pile) (lots : List Int) : Int := if ok ps lots then best (firsts ps (fresh lots.length)) lots else -1
theorem pwin_yes {ps : List Pile} {lots : List Int} (h : ok ps lots = true) : pwin ps lots = best (firsts ps (fresh lots.length)) lots := by simp [pwin, h]
theorem pwin_no {ps : List Pile} {lots : List Int} (h : ok ps lots = false) : pwin ps lots = -1 := by simp [pwin, h]
/-- the margin, or -1 -/
def pmar (ps : List Pile) (lots : List Int) : Int := if ok ps lots then margin (firsts ps (fresh lots.length)) lots else -1
theorem pmar_yes {ps : List Pile} {lots : List Int} (h : ok ps lots = true) : pmar ps lots = margin (firsts ps (fresh lots.length)) lots := by simp [pmar, h]
theorem pmar_no {ps : List Pile} {lots : List Int} (h : ok ps lots = false) : pmar ps lots = -1 := by simp [pmar, h]
theorem best_range {counts lots : List Int} (h : lval lots = true) : 0 ≤ best counts lots ∧ best counts lots < lots.length := lval_range h _ (best_mem counts lots (by have := lval_n h; omega))
end Bp



set_option maxRecDepth 100000 in
set_option maxHeartbeats 400000 in
theorem iPluralityWinner_any (A : Option Addr) (n c : Nat) (A' : Option Addr) (m c' : Nat) (ps : List Bp.Pile) (lots : List Int) (w : World) (h : Piles w w.heap.size A n ps) (hn : n ≤ 1048576) (hnc : n ≤ c) (h' : Ints w w.heap.size A' m lots) (hm : m ≤ 1048576) (hmc : m ≤ c') :
    Calls Try.prog 23 #[.slice A n c, .slice A' m c'] w fun e w' => e = .returned (.int .i64 (Bp.pwin ps lots)) ∧ Below w.heap.size w w' := by
  have hl := h'.1
  cases hok : Bp.ok ps lots
  · have H := Lib.hid (Bp.pwin_no hok)
    rcases Bp.ok_no hok with hlv | ⟨hlv, hf⟩
    · have Hlv := Lib.hid hlv
      clear hok hl
      go_enter Try.func23, Try.ntmps23
      go_wp2_with (go_at_call 47; refine (iLotsValid_any A' m c' lots _ _ h' (by omega) hmc).mono ?_; rintro e w' ⟨rfl, rfl⟩)
      go_ret
      exact ⟨ret_int H.out.symm, Below.refl _ _⟩
    · rw [hl] at hf
      have Hlv := Lib.hid hlv
      have Hf := Lib.hid hf
      clear hok hl
      go_enter Try.func23, Try.ntmps23
      go_wp2_with (first | (go_at_call 47; refine (iLotsValid_any A' m c' lots _ _ h' (by omega) hmc).mono ?_; rintro e w' ⟨rfl, rfl⟩) | (go_at_call 51; refine (pilesFit_any A n c m ps _ h hn hnc).mono ?_; rintro e w1 ⟨rfl, hb1⟩))
      go_ret
      exact ⟨ret_int H.out.symm, hb1⟩
  · have H := Lib.hid (Bp.pwin_yes hok)
    have hlv := Bp.ok_lval hok
    have hf := Bp.ok_fits hok
    rw [hl] at hf
    have hm5 := Bp.lval_n hlv
    rw [hl] at hm5
    obtain ⟨m1, m5⟩ := hm5
    have Hl := Lib.hid hl
    have Hlv := Lib.hid hlv
    have Hf := Lib.hid hf
    clear hok hl
    obtain ⟨i0, hi0, hz0, hz1, hz2⟩ := info_parts bool_info
    go_enter Try.func23, Try.ntmps23
    go_wp2_with (first | (go_at_call 47; refine (iLotsValid_any A' m c' lots _ _ h' (by omega) hmc).mono ?_; rintro e w' ⟨rfl, rfl⟩) | (go_at_call 51; refine (pilesFit_any A n c m ps _ h hn hnc).mono ?_; rintro e w1 ⟨rfl, hb1⟩) | (at_make; refine wpList_make_full _ rfl (.tmp 17) (.tmp 17) 61 rfl _ 4 i0 _ 1 Try.underlying61 hi0 hz0 hz1 .i64 .i64 m m m rfl rfl rfl rfl (by rw [hz2]; omega) (by unfold maxLen; omega) (Nat.le_refl _) ?_; intro w2 hown2 hg2))
    have hs1 := hb1.size
    have own2 := madeB_own hown2
    have hb2 : Below w1.heap.size w1 w2 := (Below.refl _ _).grown hg2 (Nat.le_refl _) (by simp)
    have hs2 := hb2.size
    have hB2 := hb1.trans (hb2.mono hs1)
    clear hown2 hg2
    refine (iFirsts_any A _ n c m m ps (Bp.fresh m) _ ((h.below hB2).mono (by omega)) own2.bools hn Hf.out).mono ?_
    rintro e w3 ⟨g, rfl, hg, hown, hb3⟩
    have hs3 := hb3.size
    have hB3 := hB2.trans (hb3.mono (by omega))
    go_wp2_with (go_at_call 40; refine (greatest_any _ A' m m m c' _ lots _ _ _ hown.ints (h'.below hB3) Hlv.out rfl).mono ?_; rintro e w4 ⟨rfl, hd4⟩)
    go_ret
    exact ⟨ret_int (by rw [H.out, Hl.out]), hB3.trans (hd4.below _)⟩

set_option maxRecDepth 100000 in
set_option maxHeartbeats 400000 in
theorem l11Winner_any (A : Option Addr) (n c : Nat) (A' : Option Addr) (m c' : Nat) (ps : List Bp.Pile) (lots : List Int) (w : World) (h : Piles w w.heap.size A n ps) (hn : n ≤ 1048576) (h' : Ints w w.heap.size A' m lots) (hok : Bp.ok ps lots = true) :
    Calls Try.prog 53 #[.slice A n c, .slice A' m c'] w fun e w' => e = .returned (.int .i64 (Bp.pwin ps lots)) ∧ Below w.heap.size w w' := by
  have hl := h'.1
  have H := Bp.pwin_yes hok
  have hlv := Bp.ok_lval hok
  have hf := Bp.ok_fits hok
  have hbd : Bp.Bd (Bp.firsts ps (Bp.fresh lots.length)) 1188 := Bp.firsts_bd (Bp.fits_val hf)
  have hfl : (Bp.firsts ps (Bp.fresh lots.length)).length = lots.length := by rw [Bp.firsts_len, Bp.fresh_len]
  have hbest := Bp.first_best (Bp.firsts ps (Bp.fresh lots.length)) lots 1188 hlv hfl hbd
  rw [hfl] at hbest
  rw [← H] at hbest
  have hm5 := Bp.lval_n hlv
  have hr := fun j (hj : j < m) => Bp.lval_at hlv j (by rw [hl]; exact hj)
  rw [hl] at hf hm5 hbest hbd hr
  obtain ⟨m1, m5⟩ := hm5
  have Hf := Lib.hid hf
  have Hbd := Lib.hid hbd
  have Hbest := Lib.hid hbest
  have Hr := Lib.hid hr
  clear hok hl H hlv hf hbd hfl hbest hr
  obtain ⟨i0, hi0, hz0, hz1, hz2⟩ := info_parts bool_info
  go_enter Try.func53, Try.ntmps53
  go_wp2_with (at_make; refine wpList_make_full _ rfl (.tmp 8) (.tmp 8) 61 rfl _ 4 i0 _ 1 Try.underlying61 hi0 hz0 hz1 .i64 .i64 m m m rfl rfl rfl rfl (by rw [hz2]; omega) (by unfold maxLen; omega) (Nat.le_refl _) ?_; intro w2 hown2 hg2)
  have own2 := madeB_own hown2
  have hb2 : Below w.heap.size w w2 := (Below.refl _ _).grown hg2 (Nat.le_refl _) (by simp)
  have hs2 := hb2.size
  clear hown2 hg2
  refine (sFirsts_any A _ n c m m ps (Bp.fresh m) _ ((h.below hb2).mono (by omega)) own2.bools hn Hf.out).mono ?_
  rintro e w3 ⟨g, rfl, hg, hown, hb3⟩
  have hs3 := hb3.size
  have hB3 := hb2.trans (hb3.mono (by omega))
  go_wp2_with fail
  refine (l11All_any m _ (by omega)).mono ?_
  rintro e w4 ⟨A4, c4, rfl, hc4, own4, hb4⟩
  have hs4 := hb4.size
  have hB4 := hB3.trans (hb4.mono (by omega))
  go_wp2_with fail
  refine (l11Most_any _ A4 m m m c4 _ _ _ (hown.keep hb4).ints own4.bools (by omega) (Nat.le_refl _) 1188 Hbd.out (by omega)).mono ?_
  rintro e w5 ⟨A5, c5, rfl, hc5, own5, hb5⟩
  have hs5 := hb5.size
  have hB5 := hB4.trans (hb5.mono (by omega))
  go_wp2_with (go_at_call 42; refine (l4First_any A' A5 m c' m c5 lots _ _ _ _ (h'.below hB5) own5.bools (by omega) Hr.out).mono ?_; rintro e w6 ⟨rfl, rfl⟩)
  go_ret
  exact ⟨ret_int Hbest.out, hB5⟩

set_option maxRecDepth 100000 in
set_option maxHeartbeats 400000 in
theorem sPluralityWinner_any (A : Option Addr) (n c : Nat) (A' : Option Addr) (m c' : Nat) (ps : List Bp.Pile) (lots : List Int) (w : World) (h : Piles w w.heap.size A n ps) (hn : n ≤ 1048576) (h' : Ints w w.heap.size A' m lots) (hm : m ≤ 1048576) (hmc : m ≤ c') :
    Calls Try.prog 24 #[.slice A n c, .slice A' m c'] w fun e w' => e = .returned (.int .i64 (Bp.pwin ps lots)) ∧ Below w.heap.size w w' := by
  have hl := h'.1
  cases hok : Bp.ok ps lots
  · have H := Lib.hid (Bp.pwin_no hok)
    rcases Bp.ok_no hok with hlv | ⟨hlv, hf⟩
    · have Hlv := Lib.hid hlv
      clear hok hl
      go_enter Try.func24, Try.ntmps24
      go_wp2_with (go_at_call 48; refine (sLotsValid_any A' m c' lots _ _ h' (by omega) hmc).mono ?_; rintro e w1 ⟨rfl, hd1⟩)
      go_ret
      exact ⟨ret_int H.out.symm, hd1.below _⟩
    · rw [hl] at hf
      have Hlv := Lib.hid hlv
      have Hf := Lib.hid hf
      clear hok hl
      go_enter Try.func24, Try.ntmps24
      go_wp2_with (go_at_call 48; refine (sLotsValid_any A' m c' lots _ _ h' (by omega) hmc).mono ?_; rintro e w1 ⟨rfl, hd1⟩)
      have hb1 := hd1.below w.heap.size
      have hs1 := hb1.size
      refine (l3Fits_any A n c m ps _ ((h.below hb1).mono hs1) hn).mono ?_
      rintro e w2 ⟨rfl, hb2⟩
      go_wp2_with fail
      go_ret
      exact ⟨ret_int H.out.symm, hb1.trans (hb2.mono hs1)⟩
  · have H := Lib.hid hok
    have hlv := Bp.ok_lval hok
    have hf := Bp.ok_fits hok
    rw [hl] at hf
    have Hlv := Lib.hid hlv
    have Hf := Lib.hid hf
    clear hok hl
    go_enter Try.func24, Try.ntmps24
    go_wp2_with (go_at_call 48; refine (sLotsValid_any A' m c' lots _ _ h' (by omega) hmc).mono ?_; rintro e w1 ⟨rfl, hd1⟩)
    have hb1 := hd1.below w.heap.size
    have hs1 := hb1.size
    refine (l3Fits_any A n c m ps _ ((h.below hb1).mono hs1) hn).mono ?_
    rintro e w2 ⟨rfl, hb2⟩
    have hs2 := hb2.size
    have hB2 := hb1.trans (hb2.mono hs1)
    go_wp2_with fail
    refine (l11Winner_any A n c A' m c' ps lots _ ((h.below hB2).mono (by omega)) hn ((h'.below hB2).mono (by omega)) H.out).mono ?_
    rintro e w3 ⟨rfl, hb3⟩
    go_wp2_with fail
    go_ret
    exact ⟨rfl, hB2.trans (hb3.mono (by omega))⟩
end Go.Proofs.Ytdcfpobjiofnmaa
