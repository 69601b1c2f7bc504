/-
  The walks of DepthWinner: the program's and the reference's.
-/
import Derived.Test.YtlbhbjhglkhbgaaPlaceWin
import Derived.Test.YtlbhbjhglkhbgaaTotals
namespace Go.Proofs.Ytlbhbjhglkhbgaa
set_option linter.unusedVariables false
open Go.RowKit

namespace Bp
/-- the winner by depths and the depth, or -1 -/
def dwin (ps : List Pile) (lots : List Int) : Int := if ok ps lots then best (counted (ptsDepth (dep ps lots.length)) ps lots.length) lots else -1
def dat (ps : List Pile) (lots : List Int) : Int := if ok ps lots then (dep ps lots.length : Int) else -1
theorem dwin_yes {ps : List Pile} {lots : List Int} (h : ok ps lots = true) : dwin ps lots = best (counted (ptsDepth (dep ps lots.length)) ps lots.length) lots ∧ dat ps lots = (dep ps lots.length : Int) := by simp [dwin, dat, h]
theorem dwin_no {ps : List Pile} {lots : List Int} (h : ok ps lots = false) : dwin ps lots = -1 ∧ dat ps lots = -1 := by simp [dwin, dat, h]
end Bp
/-- what DepthWinner leaves -/
def TwoInts (a b : Int) (w : World) (e : Ending) (w' : World) : Prop := e = .returned (.tuple #[.int .i64 a, .int .i64 b]) ∧ Below w.heap.size w w'
theorem twoInts_of {a b a' b' : Int} {w w' : World} (ha : a' = a) (hb : b' = b) (h : Below w.heap.size w w') : TwoInts a b w (.returned (.tuple #[.int .i64 a', .int .i64 b'])) w' := by
  subst ha; subst hb; exact ⟨rfl, h⟩
theorem iPilesTotal_val (A : Option Addr) (n c : Nat) (ps : List Bp.Pile) (t : Int) (ht : Bp.ptotal ps = t) (w : World) (h : Piles w w.heap.size A n ps) (hn : n ≤ 1048576) (hnc : n ≤ c) :
    Calls Try.prog 27 #[.slice A n c] w fun e w' => e = .returned (.int .i64 t) ∧ Below w.heap.size w w' := by
  subst ht; exact iPilesTotal_any A n c ps w h hn hnc

set_option maxRecDepth 100000 in
set_option maxHeartbeats 400000 in
theorem iDepthWinner_any (A : Option Addr) (n c : Nat) (A' : Option Addr) (m c' : Nat) (ps : List Bp.Pile) (lots : List Int) (w : World) (h : Piles w w.heap.size A n ps) (hn : n ≤ 1048576) (hnc : n ≤ c) (h' : Ints w w.heap.size A' m lots) (hm : m ≤ 1048576) (hmc : m ≤ c') :
    Calls Try.prog 23 #[.slice A n c, .slice A' m c'] w (TwoInts (Bp.dwin ps lots) (Bp.dat ps lots) w) := by
  have hl := h'.1
  cases hok : Bp.ok ps lots
  · have H := Lib.hid (Bp.dwin_no hok)
    rcases Bp.ok_no hok with hlv | ⟨hlv, hf⟩
    · have Hlv := Lib.hid hlv
      clear hok hl
      go_enter Try.func23, Try.ntmps23
      go_wp2_with (go_at_call 53; refine (iLotsValid_any A' m c' lots _ _ h' (by omega) hmc).mono ?_; rintro e w' ⟨rfl, rfl⟩)
      go_ret2
      exact twoInts_of H.out.1.symm H.out.2.symm (Below.refl _ _)
    · rw [hl] at hf
      have Hlv := Lib.hid hlv
      have Hf := Lib.hid hf
      clear hok hl
      go_enter Try.func23, Try.ntmps23
      go_wp2_with (first | (go_at_call 53; refine (iLotsValid_any A' m c' lots _ _ h' (by omega) hmc).mono ?_; rintro e w' ⟨rfl, rfl⟩) | (go_at_call 54; refine (pilesFit_any A n c m ps _ h hn hnc).mono ?_; rintro e w1 ⟨rfl, hb1⟩))
      go_ret2
      exact twoInts_of H.out.1.symm H.out.2.symm hb1
  · have H := Bp.dwin_yes hok
    have hlv := Bp.ok_lval hok
    have hf := Bp.ok_fits hok
    have hm5 := Bp.lval_n hlv
    rw [hl] at hf hm5 H
    obtain ⟨m1, m5⟩ := hm5
    have Hl := Lib.hid hl
    have Hf := Lib.hid hf
    have Hlv := Lib.hid hlv
    have H := Lib.hid H
    obtain ⟨t, ht⟩ : ∃ t, Bp.ptotal ps = t := ⟨_, rfl⟩
    have htb := Bp.ptotal_bd ps
    rw [ht] at htb
    have htp : Bp.psum ps = t := by rw [← Bp.ptotal_yes (Bp.fits_val hf)]; exact ht
    have Ht := Lib.hid ht
    have Htp := Lib.hid htp
    clear hok hl ht htp
    go_enter Try.func23, Try.ntmps23
    go_wp2_with (first | (go_at_call 53; refine (iLotsValid_any A' m c' lots _ _ h' (by omega) hmc).mono ?_; rintro e w' ⟨rfl, rfl⟩) | (go_at_call 54; refine (pilesFit_any A n c m ps _ h hn hnc).mono ?_; rintro e w1 ⟨rfl, hb1⟩))
    clear hlv hf
    go_loopw [6] (fun i wr => ∃ d : Nat, 1 ≤ d ∧ d ≤ m ∧ i = .int .i64 d ∧ Hid (∀ j : Nat, 1 ≤ j → j < d → Bp.over (Bp.counted (Bp.ptsDepth j) ps m) (Bp.psum ps) m = false) ∧ Below w.heap.size w wr) (fun i _ => m - (intOf i).toNat)
    case atStart => exact ⟨1, Nat.le_refl _, m1, rfl, fun j h1 h2 => absurd h2 (by omega), hb1⟩
    case round =>
      obtain ⟨d, hd1, hdm, rfl, hq, hb⟩ := hrel
      clear hb1
      have hz := hb.size
      have hr := (h.below hb).mono hz
      have hr' := (h'.below hb).mono hz
      have hcall := iDepthCounts_any A n c m d ps _ hr hn hnc
      rw [Hf.out, show isDepth d = true by simp [isDepth]; omega] at hcall
      have Hcall := Lib.hid hcall
      clear hcall
      have hbd : Bp.Bd (Bp.counted (Bp.ptsDepth d) ps m) 29700 := Bp.counted_bd (Bp.fits_val Hf.out) (Bp.ptsDepth_bd _)
      have hover := Bp.over_best (Bp.counted (Bp.ptsDepth d) ps m) lots t Hlv.out (by rw [Bp.counted_len, Hl.out])
      rw [Bp.counted_len] at hover
      have hbr := Bp.best_range (counts := Bp.counted (Bp.ptsDepth d) ps m) Hlv.out
      rw [Hl.out] at hbr
      have Hdw : Hid (d = m ∨ Bp.over (Bp.counted (Bp.ptsDepth d) ps m) t m = true → Bp.dwin ps lots = Bp.best (Bp.counted (Bp.ptsDepth d) ps m) lots ∧ Bp.dat ps lots = d) := fun hor => by
        have := Bp.dep_is ps m d hd1 hdm hq.out (by rw [Htp.out]; exact hor)
        rw [H.out.1, H.out.2, this]
        exact ⟨rfl, rfl⟩
      have Hno : Hid (Bp.over (Bp.counted (Bp.ptsDepth d) ps m) t m = false → ∀ j : Nat, 1 ≤ j → j < d + 1 → Bp.over (Bp.counted (Bp.ptsDepth j) ps m) (Bp.psum ps) m = false) := fun hno j h1 h2 => by
        by_cases hj : j = d
        · subst hj; rw [Htp.out]; exact hno
        · exact hq.out j h1 (by omega)
      obtain ⟨b, hbb⟩ : ∃ b, Bp.best (Bp.counted (Bp.ptsDepth d) ps m) lots = b := ⟨_, rfl⟩
      rw [hbb] at hover hbr
      obtain ⟨bn, rfl⟩ := Int.eq_ofNat_of_zero_le hbr.1
      have hbm : bn < m := by omega
      rw [Int.toNat_natCast] at hover
      have Hbb := Lib.hid hbb
      have Hover := Lib.hid hover
      have Hbd := Lib.hid hbd
      clear hover hbb hbd hbr hq
      go_wp2_with fail
      refine Hcall.out.mono ?_
      rintro e w1 ⟨A1, n1, c1, rfl, hc1, hn1, hown, hb1⟩
      have hs1 := hb1.size
      have hnm := Bp.cres_len rfl hown.len
      rw [Int.toNat_natCast, Bp.counted_len] at hnm
      subst hnm
      rw [cres_yes (Bool.and_self true), Int.toNat_natCast] at hown
      have hi := hown.ints
      have hB1 := hb.trans (hb1.mono hz)
      clear hown Hcall
      go_wp2_with fail
      refine (greatest_any A1 A' _ c1 _ c' _ lots _ _ _ hi (h'.below hB1) Hlv.out rfl).mono ?_
      rintro e w2 ⟨rfl, hd2⟩
      rw [Hbb.out]
      have hb2 := hd2.below w1.heap.size
      have hB2 := hB1.trans (hd2.below w.heap.size)
      have hs2 := hb2.size
      obtain ⟨g, o, z, rfl, _, hc, hz'⟩ := (hi.below hb2).at hbm
      have hzb := Hbd.out.nth bn
      rw [hz'.out] at hzb
      have hx := fun x => calm_cell (W := w2) hc x
      have hr2 := (h.below hB2).mono (show w.heap.size ≤ w2.heap.size by omega)
      by_cases hdd : d = m
      · have d0 : ((d : Int) == (m : Int)) = true := by simp; omega
        have Hdd := Lib.hid hdd
        clear hdd
        go_wp2_with fail
        refine wp_region_calm (by kernel_rfl) (by kernel_rfl) ?_
        repeat (go_big_quiet_step (fail))
        refine wpQuiet_nil ?_
        rintro _ ⟨⟨w3, hb3⟩, rfl⟩
        go_wp2_with fail
        go_ret2
        have hD := Hdw.out (.inl Hdd.out)
        exact twoInts_of (by rw [hD.1, Hbb.out]) hD.2.symm (hB2.trans (hb3.mono (by omega)))
      · have d0 : ((d : Int) == (m : Int)) = false := by simp; omega
        have hdlt : d < m := by omega
        have Hdd := Lib.hid hdd
        clear hdd
        by_cases ho : t < 2 * z
        · have hot : Hid (Bp.over (Bp.counted (Bp.ptsDepth d) ps m) t m = true) := by
            show _ = true
            rw [Hover.out, hz'.out]
            exact decide_eq_true ho
          go_wp2_with fail
          refine wp_region_calm (by kernel_rfl) (by kernel_rfl) ?_
          repeat (go_big_quiet_step ((go_at_call 27; exact calm_call (iPilesTotal_val A n c ps t Ht.out _ ((hr2.below (Calm.ok _)).mono (Calm.ok _).size) hn hnc))))
          refine wpQuiet_nil ?_
          rintro _ ⟨⟨w3, hb3⟩, rfl⟩
          go_wp2_with fail
          go_ret2
          have hD := Hdw.out (.inr hot.out)
          exact twoInts_of (by rw [hD.1, Hbb.out]) hD.2.symm (hB2.trans (hb3.mono (by omega)))
        · have hot : Hid (Bp.over (Bp.counted (Bp.ptsDepth d) ps m) t m = false) := by
            show _ = false
            rw [Hover.out, hz'.out]
            exact decide_eq_false ho
          go_wp2_with fail
          refine wp_region_calm (by kernel_rfl) (by kernel_rfl) ?_
          repeat (go_big_quiet_step ((go_at_call 27; exact calm_call (iPilesTotal_val A n c ps t Ht.out _ ((hr2.below (Calm.ok _)).mono (Calm.ok _).size) hn hnc))))
          refine wpQuiet_nil ?_
          rintro _ ⟨⟨w3, hb3⟩, rfl⟩
          go_wp2_with fail
          go_roundw
          case rel => exact ⟨d + 1, by omega, by omega, by go_num, Hno.out hot.out, hB2.trans (hb3.mono (by omega))⟩
          case measure => simp [intOf]; omega

set_option maxRecDepth 100000 in
set_option maxHeartbeats 400000 in
theorem sDepthWinner_any (A : Option Addr) (n c : Nat) (A' : Option Addr) (m c' : Nat) (ps : List Bp.Pile) (lots : List Int) (w : World) (h : Piles w w.heap.size A n ps) (hn : n ≤ 1048576) (h' : Ints w w.heap.size A' m lots) (hm : m ≤ 1048576) (hmc : m ≤ c') :
    Calls Try.prog 24 #[.slice A n c, .slice A' m c'] w (TwoInts (Bp.dwin ps lots) (Bp.dat ps lots) w) := by
  have hl := h'.1
  cases hok : Bp.ok ps lots
  · have H := Lib.hid (Bp.dwin_no hok)
    rcases Bp.ok_no hok with hlv | ⟨hlv, hf⟩
    · have Hlv := Lib.hid hlv
      clear hok hl
      go_enter Try.func24, Try.ntmps24
      go_wp2_with (go_at_call 57; refine (sLotsValid_any A' m c' lots _ _ h' (by omega) hmc).mono ?_; rintro e w1 ⟨rfl, hd1⟩)
      go_ret2
      exact twoInts_of H.out.1.symm H.out.2.symm (hd1.below _)
    · rw [hl] at hf
      have Hlv := Lib.hid hlv
      have Hf := Lib.hid hf
      clear hok hl
      go_enter Try.func24, Try.ntmps24
      go_wp2_with (go_at_call 57; refine (sLotsValid_any A' m c' lots _ _ h' (by omega) hmc).mono ?_; rintro e w1 ⟨rfl, hd1⟩)
      have hb1 := hd1.below w.heap.size
      have hs1 := hb1.size
      refine (l3Fits_any A n c m ps _ ((h.below hb1).mono hs1) hn).mono ?_
      rintro e w2 ⟨rfl, hb2⟩
      go_wp2_with fail
      go_ret2
      exact twoInts_of H.out.1.symm H.out.2.symm (hb1.trans (hb2.mono hs1))
  · have H := Bp.dwin_yes hok
    have hlv := Bp.ok_lval hok
    have hf := Bp.ok_fits hok
    have hm5 := Bp.lval_n hlv
    have hr := fun j (hj : j < m) => Bp.lval_at hlv j (by rw [hl]; exact hj)
    rw [hl] at hf hm5 H hr
    obtain ⟨m1, m5⟩ := hm5
    have Hl := Lib.hid hl
    have Hf := Lib.hid hf
    have Hlv := Lib.hid hlv
    have H := Lib.hid H
    have Hr := Lib.hid hr
    obtain ⟨t, ht⟩ : ∃ t, Bp.psum ps = t := ⟨_, rfl⟩
    have htb := Bp.psum_bd (Bp.fits_val hf)
    rw [ht] at htb
    have Ht := Lib.hid ht
    clear hok hl ht hr
    go_enter Try.func24, Try.ntmps24
    go_wp2_with (go_at_call 57; refine (sLotsValid_any A' m c' lots _ _ h' (by omega) hmc).mono ?_; rintro e w1 ⟨rfl, hd1⟩)
    have hb1 := hd1.below w.heap.size
    have hs1 := hb1.size
    refine (l3Fits_any A n c m ps _ ((h.below hb1).mono hs1) hn).mono ?_
    rintro e w2 ⟨rfl, hb2⟩
    have hB2 := hb1.trans (hb2.mono hs1)
    go_wp2_with fail
    clear hlv hf
    go_loopw [7] (fun i wr => ∃ d : Nat, 1 ≤ d ∧ d ≤ m ∧ i = .int .i64 d ∧ Hid (∀ j : Nat, 1 ≤ j → j < d → Bp.over (Bp.counted (Bp.ptsDepth j) ps m) (Bp.psum ps) m = false) ∧ Below w.heap.size w wr) (fun i _ => m - (intOf i).toNat)
    case atStart => exact ⟨1, Nat.le_refl _, m1, rfl, fun j h1 h2 => absurd h2 (by omega), hB2⟩
    case round =>
      obtain ⟨d, hd1', hdm, rfl, hq, hb⟩ := hrel
      clear hB2 hb1 hb2
      have hz := hb.size
      have hr := (h.below hb).mono hz
      have hbd : Bp.Bd (Bp.counted (Bp.ptsDepth d) ps m) 29700 := Bp.counted_bd (Bp.fits_val Hf.out) (Bp.ptsDepth_bd _)
      have Hdw : Hid (d = m ∨ Bp.over (Bp.counted (Bp.ptsDepth d) ps m) t m = true → Bp.dwin ps lots = Bp.best (Bp.counted (Bp.ptsDepth d) ps m) lots ∧ Bp.dat ps lots = d) := fun hor => by
        have := Bp.dep_is ps m d hd1' hdm hq.out (by rw [Ht.out]; exact hor)
        rw [H.out.1, H.out.2, this]
        exact ⟨rfl, rfl⟩
      have Hno : Hid (Bp.over (Bp.counted (Bp.ptsDepth d) ps m) t m = false → ∀ j : Nat, 1 ≤ j → j < d + 1 → Bp.over (Bp.counted (Bp.ptsDepth j) ps m) (Bp.psum ps) m = false) := fun hno j h1 h2 => by
        by_cases hj : j = d
        · subst hj; rw [Ht.out]; exact hno
        · exact hq.out j h1 (by omega)
      have hbest := Bp.first_best (Bp.counted (Bp.ptsDepth d) ps m) lots 29700 Hlv.out (by rw [Bp.counted_len, Hl.out]) hbd
      rw [Bp.counted_len, Hl.out] at hbest
      have Hbest := Lib.hid hbest
      have Hbd := Lib.hid hbd
      clear hbest hbd hq
      have ends : ∀ wx : World, Below w.heap.size w wx → (d = m ∨ Bp.over (Bp.counted (Bp.ptsDepth d) ps m) t m = true) → True := fun _ _ _ => trivial
      clear ends
      cases hgo : (decide (d < m) && !Bp.over (Bp.counted (Bp.ptsDepth d) ps m) t m)
      · have hor : Hid (d = m ∨ Bp.over (Bp.counted (Bp.ptsDepth d) ps m) t m = true) := by
          show _ ∨ _
          simp only [Bool.and_eq_false_iff, decide_eq_false_iff_not, Bool.not_eq_false'] at hgo
          rcases hgo with h0 | h0
          · exact .inl (by omega)
          · exact .inr h0
        clear hgo
        by_cases hdd : d < m
        · have ho : Bp.over (Bp.counted (Bp.ptsDepth d) ps m) t m = true := hor.out.resolve_left (by omega)
          go_wp2_with fail
          refine (l14Depth_any A n c m d ps _ hr hn Hf.out).mono ?_
          rintro e w3 ⟨g, rfl, hg, hown, hb3⟩
          have hB3 := hb.trans (hb3.mono hz)
          have hs3 := hb3.size
          go_wp2_with fail
          refine (l3Total_any A n c ps _ _ (h.below hB3) hn (Bp.fits_val Hf.out)).mono ?_
          rintro e w' ⟨rfl, rfl⟩
          rw [Ht.out]
          go_wp2_with fail
          refine (l14Over_any _ m m _ t _ _ hown.ints (by omega) 29700 Hbd.out (by omega) (by omega) (by omega)).mono ?_
          rintro e w' ⟨rfl, rfl⟩
          clear hown
          go_wp2_with fail
          refine (l14Depth_any A n c m d ps _ ((h.below hB3).mono (by omega)) hn Hf.out).mono ?_
          rintro e w4 ⟨g', rfl, hg', hown, hb4⟩
          have hs4 := hb4.size
          have hB4 := hB3.trans (hb4.mono (by omega))
          go_wp2_with fail
          refine (l11All_any m _ (by omega)).mono ?_
          rintro e w5 ⟨A5, c5, rfl, hc5, own5, hb5⟩
          have hs5 := hb5.size
          have hB5 := hB4.trans (hb5.mono (by omega))
          go_wp2_with fail
          refine (l11Most_any _ A5 m m m c5 _ _ _ (hown.keep hb5).ints own5.bools (by omega) (Nat.le_refl _) 29700 Hbd.out (by omega)).mono ?_
          rintro e w6 ⟨A6, c6, rfl, hc6, own6, hb6⟩
          have hs6 := hb6.size
          have hB6 := hB5.trans (hb6.mono (by omega))
          go_wp2_with (go_at_call 64; refine (l4First_any A' A6 m c' m c6 lots _ _ _ _ (h'.below hB6) own6.bools (by omega) Hr.out).mono ?_; rintro e w7 ⟨rfl, rfl⟩)
          go_ret2
          have hD := Hdw.out hor.out
          exact twoInts_of (by rw [hD.1, Hbest.out]) hD.2.symm hB6
        · go_wp2_with fail
          refine (l14Depth_any A n c m d ps _ hr hn Hf.out).mono ?_
          rintro e w4 ⟨g', rfl, hg', hown, hb4⟩
          have hs4 := hb4.size
          have hB4 := hb.trans (hb4.mono (by omega))
          go_wp2_with fail
          refine (l11All_any m _ (by omega)).mono ?_
          rintro e w5 ⟨A5, c5, rfl, hc5, own5, hb5⟩
          have hs5 := hb5.size
          have hB5 := hB4.trans (hb5.mono (by omega))
          go_wp2_with fail
          refine (l11Most_any _ A5 m m m c5 _ _ _ (hown.keep hb5).ints own5.bools (by omega) (Nat.le_refl _) 29700 Hbd.out (by omega)).mono ?_
          rintro e w6 ⟨A6, c6, rfl, hc6, own6, hb6⟩
          have hs6 := hb6.size
          have hB6 := hB5.trans (hb6.mono (by omega))
          go_wp2_with (go_at_call 64; refine (l4First_any A' A6 m c' m c6 lots _ _ _ _ (h'.below hB6) own6.bools (by omega) Hr.out).mono ?_; rintro e w7 ⟨rfl, rfl⟩)
          go_ret2
          have hD := Hdw.out hor.out
          exact twoInts_of (by rw [hD.1, Hbest.out]) hD.2.symm hB6
      · simp only [Bool.and_eq_true, decide_eq_true_eq, Bool.not_eq_true'] at hgo
        obtain ⟨hdd, ho⟩ := hgo
        have Ho := Lib.hid ho
        go_wp2_with fail
        refine (l14Depth_any A n c m d ps _ hr hn Hf.out).mono ?_
        rintro e w3 ⟨g, rfl, hg, hown, hb3⟩
        have hB3 := hb.trans (hb3.mono hz)
        have hs3 := hb3.size
        go_wp2_with fail
        refine (l3Total_any A n c ps _ _ (h.below hB3) hn (Bp.fits_val Hf.out)).mono ?_
        rintro e w' ⟨rfl, rfl⟩
        rw [Ht.out]
        go_wp2_with fail
        refine (l14Over_any _ m m _ t _ _ hown.ints (by omega) 29700 Hbd.out (by omega) (by omega) (by omega)).mono ?_
        rintro e w' ⟨rfl, rfl⟩
        clear hown
        go_wp2_with fail
        go_roundw
        case rel => exact ⟨d + 1, by omega, by omega, by go_num, Hno.out Ho.out, hB3⟩
        case measure => simp [intOf]; omega
end Go.Proofs.Ytlbhbjhglkhbgaa
