/-
  The walks of FnDepthWinner and FnDepthWinnerOne.
-/
import Derived.Test.YtlbhbjhglkhbgaaLawPlurWalk
import Derived.Test.YtlbhbjhglkhbgaaDepthWin
namespace Go.Proofs.Ytlbhbjhglkhbgaa
set_option linter.unusedVariables false
open Go.RowKit

set_option maxRecDepth 100000 in
set_option maxHeartbeats 400000 in
theorem most_any (A : Option Addr) (n c : Nat) (zs : List Int) (B : Nat) (w : World) (h : Ints w B A n zs) (hn : n ≤ 1048576) :
    Calls Try.prog 26 #[.slice A n c] w fun e w' => e = .returned (.int .i64 (Bp.topN zs n)) ∧ w = w' := by
  go_enter Try.func26, Try.ntmps26
  go_wp2
  go_loop [3, 4] (fun t i => ∃ k : Nat, k ≤ n ∧ i = .int .i64 k ∧ t = .int .i64 (Bp.topN zs k)) (fun _ i => n - (intOf i).toNat)
  case atStart => exact ⟨0, Nat.zero_le _, rfl, rfl⟩
  case round =>
    obtain ⟨k, hk, rfl, rfl⟩ := hrel
    have Ht := Lib.hid (show Bp.topN zs (k + 1) = max (Bp.topN zs k) (zs.getD k 0) from rfl)
    obtain ⟨y, hy⟩ : ∃ y, Bp.topN zs k = y := ⟨_, rfl⟩
    rw [hy]
    by_cases hlt : k < n
    · obtain ⟨g', o', b, rfl, _, hc', hb⟩ := h.at hlt
      have Hy := Lib.hid hy
      clear hy
      go_wp2_with fail
      all_goals
        go_round
        case rel => exact ⟨k + 1, by omega, by go_num, by rw [Ht.out, Hy.out, hb.out]; first | rfl | (congr 1; omega)⟩
        case measure => simp [intOf]; omega
    · have hkn : k = n := by omega
      subst hkn
      have Hy := Lib.hid hy
      clear hy
      go_wp2_with fail
      go_ret
      exact ⟨ret_int Hy.out.symm, rfl⟩
theorem most_val (A : Option Addr) (n c : Nat) (zs : List Int) (v : Int) (hv : Bp.topN zs n = v) (B : Nat) (w : World) (h : Ints w B A n zs) (hn : n ≤ 1048576) :
    Calls Try.prog 26 #[.slice A n c] w fun e w' => e = .returned (.int .i64 v) ∧ w = w' := by
  subst hv; exact most_any A n c zs B w h hn

set_option maxRecDepth 100000 in
set_option maxHeartbeats 2000000 in
theorem lawDepthWinner_any (A : Option Addr) (n c : Nat) (w : World) (h : Bytes w w.heap.size A n) (hn : n ≤ 9223372036854775807) (hc : n ≤ c) :
    Calls Try.prog 5 #[.slice A n c] w fun e w' => e = .returned (.bool true) ∧ Below w.heap.size w w' := by
  by_cases hb : 1048576 < n
  · go_enter Try.func5, Try.ntmps5
    go_wp2_with fail
    go_ret
    exact ⟨rfl, Below.refl _ _⟩
  go_enter Try.func5, Try.ntmps5
  go_wp2_with fail
  refine (drawDepthWinner_some A n c _ h hn hc).mono ?_
  rintro e w1 ⟨gp, k, cp, Al, m, cl, ps, lots, rfl, hcp, hkp, hcl, hml, hps, hlo, hb1⟩
  have hs1 := hb1.size
  go_wp2_with fail
  refine (iDepthWinner_any _ k cp Al m cl ps lots _ hps (by omega) hcp hlo (by omega) hcl).mono ?_
  rintro e w2 ⟨rfl, hb2⟩
  have hs2 := hb2.size
  have hps2 := (hps.below hb2).mono hs2
  have hlo2 := (hlo.below hb2).mono hs2
  have hB2 := hb1.trans (hb2.mono hs1)
  go_wp2_with fail
  refine (sDepthWinner_any _ k cp Al m cl ps lots _ hps2 (by omega) hlo2 (by omega) hcl).mono ?_
  rintro e w3 ⟨rfl, hb3⟩
  have hs3 := hb3.size
  have hps3 := (hps2.below hb3).mono hs3
  have hB3 := hB2.trans (hb3.mono (by omega))
  have hl := hlo.1
  clear hps hps2 hlo2
  cases hok : Bp.ok ps lots
  · have hw := Bp.dwin_no hok
    rw [hw.1, hw.2]
    clear hok hl hw
    go_wp2_with fail
    go_ret
    exact ⟨rfl, hB3⟩
  · have hw := Bp.dwin_yes hok
    have hlv := Bp.ok_lval hok
    have hf := Bp.ok_fits hok
    have hm5 := Bp.lval_n hlv
    have hbr := Bp.best_range (counts := Bp.counted (Bp.ptsDepth (Bp.dep ps lots.length)) ps lots.length) hlv
    have hdr := Bp.dep_range ps lots.length (by omega)
    have hbd : Bp.Bd (Bp.counted (Bp.ptsDepth (Bp.dep ps lots.length)) ps lots.length) 29700 := Bp.counted_bd (Bp.fits_val hf) (Bp.ptsDepth_bd _)
    have htop := Bp.best_top (Bp.counted (Bp.ptsDepth (Bp.dep ps lots.length)) ps lots.length) lots 29700 hlv (Bp.counted_len _ _ _) hbd
    have hless := fun j h1 h2 => Bp.dep_less ps lots.length j h1 h2
    rw [Bp.counted_len] at htop
    rw [hw.1, hw.2]
    rw [hl] at hm5 hf hbr hdr hbd htop hless ⊢
    obtain ⟨hm1, hm5⟩ := hm5
    obtain ⟨D, hD⟩ : ∃ D, Bp.dep ps m = D := ⟨_, rfl⟩
    rw [hD] at hbr hdr hbd htop hless ⊢
    obtain ⟨b, hbb⟩ : ∃ b, Bp.best (Bp.counted (Bp.ptsDepth D) ps m) lots = b := ⟨_, rfl⟩
    rw [hbb] at hbr htop ⊢
    obtain ⟨bn, rfl⟩ := Int.eq_ofNat_of_zero_le hbr.1
    rw [Int.toNat_natCast] at htop
    have hbm : bn < m := by omega
    have hbm0 : decide ((bn : Int) < 0) = false := by simp
    obtain ⟨E, hE⟩ : ∃ E, D = E + 1 := ⟨D - 1, by omega⟩
    have hE1 : (D : Int) - 1 = (E : Int) := by omega
    have hE5 : E ≤ 4 := by omega
    have hpv := Bp.fits_val hf
    have hpt : Bp.ptotal ps = Bp.psum ps := Bp.ptotal_yes hpv
    have hpb := Bp.psum_bd hpv
    have hbd2 : Bp.Bd (Bp.counted (Bp.ptsDepth E) ps m) 29700 := Bp.counted_bd hpv (Bp.ptsDepth_bd _)
    obtain ⟨T, hT⟩ : ∃ T, Bp.topN (Bp.counted (Bp.ptsDepth E) ps m) m = T := ⟨_, rfl⟩
    have hTb := Bp.topN_bd hbd2 m
    rw [hT] at hTb
    have hlaw : 2 * T ≤ Bp.psum ps := by
      rw [← hT]
      by_cases hE0 : E = 0
      · subst hE0
        have : Bp.counted (Bp.ptsDepth ((0 : Nat) : Int)) ps m = List.replicate m 0 := Bp.countTo_none ps m ps.length
        rw [this, Bp.topN_zero]
        omega
      · exact Bp.top_over _ _ m hpb.1 (hless E (by omega) (by omega))
    obtain ⟨t, ht⟩ : ∃ t, Bp.psum ps = t := ⟨_, rfl⟩
    rw [ht] at hlaw hpt hpb
    have hwr : IntKind.i64.wrap (2 * T) = 2 * T := IntWalk.i64_in _ (by omega)
    have hD5 : D ≤ 5 := by omega
    have hD1 : 1 ≤ D := hdr.1
    have dlaw : decide (2 * T ≤ t) = true := decide_eq_true hlaw
    have Hf := Lib.hid hf
    have Hbd := Lib.hid hbd
    have Htop := Lib.hid htop
    have HT := Lib.hid hT
    have Hpt := Lib.hid hpt
    have HE := Lib.hid hE
    clear hok hl hw hlv hf hbd hbb hbr hdr htop hless hD hE hpv hpt hbd2 hT ht
    have hcall := iDepthCounts_any _ k cp m D ps _ hps3 (by omega) hcp
    rw [Hf.out, show isDepth (D : Int) = true by simp [isDepth]; omega, Bool.and_self] at hcall
    go_wp2_with fail
    refine hcall.mono ?_
    rintro e w4 ⟨Ac, nc, cc, rfl, hcc, hnc, own4, hb4⟩
    have hs4 := hb4.size
    have hB4 := hB3.trans (hb4.mono (by omega))
    have hps4 := (hps3.below hb4).mono hs4
    rw [cres_yes rfl, Int.toNat_natCast] at own4
    have hnm : nc = m := by have := own4.len; rw [Bp.counted_len] at this; omega
    subst hnm
    have hbm1 : decide ((nc : Int) ≤ (bn : Int)) = false := by simp; omega
    clear hcall
    have hcall := iDepthCounts_any _ k cp nc E ps _ hps4 (by omega) hcp
    rw [Hf.out, show isDepth (E : Int) = true by simp [isDepth]; omega, Bool.and_self] at hcall
    go_wp2_with fail
    refine hcall.mono ?_
    rintro e w5 ⟨Al2, nl, cl2, rfl, hcl2, hnl, own5, hb5⟩
    have hs5 := hb5.size
    have hB5 := hB4.trans (hb5.mono (by omega))
    have hps5 := (hps4.below hb5).mono hs5
    rw [cres_yes rfl, Int.toNat_natCast] at own5
    have hnm2 : nl = nc := by have := own5.len; rw [Bp.counted_len] at this; omega
    subst hnm2
    have hi := (own4.keep hb5).ints
    have hi2 := own5.ints
    clear hcall own4 own5
    obtain ⟨g3, o3, y, rfl, _, hy, ey⟩ := hi.at hbm
    have hyT : Bp.topN (Bp.counted (Bp.ptsDepth D) ps nl) nl = y := by rw [← Htop.out]; exact ey.out
    have HyT := Lib.hid hyT
    clear hyT
    have hx := fun x => calm_cell (W := w5) hy x
    have i3 : (0 : Int) ≤ (bn : Int) := by omega
    have i4 : (bn : Int) < (nl : Int) := by omega
    go_wp2_with fail
    refine wp_region_calm (by kernel_rfl) (by kernel_rfl) ?_
    repeat (go_big_quiet_step ((first
      | (go_at_call 26; with_reducible exact calm_same (most_val (some ⟨g3, o3, none⟩) nl cc _ y HyT.out _ _ (hi.below (Calm.ok _)) (by omega)))
      | (go_at_call 26; with_reducible exact calm_same (most_val Al2 nl cl2 _ T HT.out _ _ (hi2.below (Calm.ok _)) (by omega)))
      | (go_at_call 27; exact calm_call (iPilesTotal_val _ k cp ps t Hpt.out _ ((hps5.below (Calm.ok _)).mono (Calm.ok _).size) (by omega) hcp)))))
    refine wpQuiet_nil ?_
    rintro _ ⟨⟨w6, hb6⟩, rfl⟩
    go_wp2_with fail
    go_ret
    exact ⟨rfl, hB5.trans (hb6.mono (by omega))⟩

set_option maxRecDepth 100000 in
set_option maxHeartbeats 2000000 in
theorem lawDepthWinnerOne_any (A : Option Addr) (n c : Nat) (w : World) (h : Bytes w w.heap.size A n) (hn : n ≤ 9223372036854775807) (hc : n ≤ c) :
    Calls Try.prog 7 #[.slice A n c] w fun e w' => e = .returned (.bool true) ∧ Below w.heap.size w w' := by
  by_cases hb : 1048576 < n
  · go_enter Try.func7, Try.ntmps7
    go_wp2_with fail
    go_ret
    exact ⟨rfl, Below.refl _ _⟩
  obtain ⟨i0, hi0, hz0, hz1, hz2⟩ := info_parts bool_info
  go_enter Try.func7, Try.ntmps7
  go_wp2_with fail
  refine (drawDepthWinner_some A n c _ h hn hc).mono ?_
  rintro e w1 ⟨gp, k, cp, Al, m, cl, ps, lots, rfl, hcp, hkp, hcl, hml, hps, hlo, hb1⟩
  have hs1 := hb1.size
  go_wp2_with fail
  refine (iDepthWinner_any _ k cp Al m cl ps lots _ hps (by omega) hcp hlo (by omega) hcl).mono ?_
  rintro e w2 ⟨rfl, hb2⟩
  have hs2 := hb2.size
  have hps2 := (hps.below hb2).mono hs2
  have hlo2 := (hlo.below hb2).mono hs2
  have hB2 := hb1.trans (hb2.mono hs1)
  go_wp2_with fail
  refine (sDepthWinner_any _ k cp Al m cl ps lots _ hps2 (by omega) hlo2 (by omega) hcl).mono ?_
  rintro e w3 ⟨rfl, hb3⟩
  have hs3 := hb3.size
  have hps3 := (hps2.below hb3).mono hs3
  have hlo3 := (hlo2.below hb3).mono hs3
  have hB3 := hB2.trans (hb3.mono (by omega))
  have hl := hlo.1
  clear hps hps2 hlo2
  cases hok : Bp.ok ps lots
  · have hw := Bp.dwin_no hok
    rw [hw.1, hw.2]
    clear hok hl hw
    go_wp2_with fail
    go_ret
    exact ⟨rfl, hB3⟩
  · have hw := Bp.dwin_yes hok
    have hpw := Bp.pwin_yes hok
    have hlv := Bp.ok_lval hok
    have hf := Bp.ok_fits hok
    have hm5 := Bp.lval_n hlv
    have hbr := Bp.best_range (counts := Bp.counted (Bp.ptsDepth (Bp.dep ps lots.length)) ps lots.length) hlv
    have hpr := Bp.best_range (counts := Bp.firsts ps (Bp.fresh lots.length)) hlv
    have hdr := Bp.dep_range ps lots.length (by omega)
    have hless := fun j h1 h2 => Bp.dep_less ps lots.length j h1 h2
    have hone := Bp.counted_first ps lots.length hf
    rw [hw.1, hw.2]
    rw [hl] at hm5 hf hbr hpr hdr hless hone hpw ⊢
    obtain ⟨hm1, hm5⟩ := hm5
    obtain ⟨D, hD⟩ : ∃ D, Bp.dep ps m = D := ⟨_, rfl⟩
    rw [hD] at hbr hdr hless ⊢
    have hsame : D = 1 → Bp.best (Bp.counted (Bp.ptsDepth D) ps m) lots = Bp.best (Bp.firsts ps (Bp.fresh m)) lots := fun e => by
      rw [e, hone]; rfl
    obtain ⟨b, hbb⟩ : ∃ b, Bp.best (Bp.counted (Bp.ptsDepth D) ps m) lots = b := ⟨_, rfl⟩
    rw [hbb] at hbr hsame ⊢
    obtain ⟨bn, rfl⟩ := Int.eq_ofNat_of_zero_le hbr.1
    obtain ⟨p, hpp⟩ : ∃ p, Bp.best (Bp.firsts ps (Bp.fresh m)) lots = p := ⟨_, rfl⟩
    rw [hpp] at hpr hsame hpw
    obtain ⟨pn, rfl⟩ := Int.eq_ofNat_of_zero_le hpr.1
    have hpm : pn < m := by omega
    have hpv := Bp.fits_val hf
    have hpt : Bp.ptotal ps = Bp.psum ps := Bp.ptotal_yes hpv
    have hpb := Bp.psum_bd hpv
    have hbd : Bp.Bd (Bp.firsts ps (Bp.fresh m)) 1188 := Bp.firsts_bd hpv
    obtain ⟨zb, hzb⟩ : ∃ zb, (Bp.firsts ps (Bp.fresh m)).getD pn 0 = zb := ⟨_, rfl⟩
    have hzbb := hbd.nth pn
    rw [hzb] at hzbb
    have hmaj : ¬ D = 1 → 2 * zb ≤ Bp.psum ps := fun e => by
      have h1 := hless 1 (Nat.le_refl _) (by omega)
      rw [hone, Bp.over_no] at h1
      have h2 := h1 pn hpm
      rw [show Bp.firsts ps (List.replicate m false) = Bp.firsts ps (Bp.fresh m) from rfl, hzb] at h2
      exact h2
    obtain ⟨t, ht⟩ : ∃ t, Bp.psum ps = t := ⟨_, rfl⟩
    rw [ht] at hmaj hpt hpb
    have hwr : IntKind.i64.wrap (2 * zb) = 2 * zb := IntWalk.i64_in _ (by omega)
    have hbm0 : decide ((bn : Int) < 0) = false := by simp
    have hpm0 : decide ((pn : Int) < 0) = false := by simp
    have hpm1 : decide ((m : Int) ≤ (pn : Int)) = false := by simp; omega
    have Hf := Lib.hid hf
    have Hzb := Lib.hid hzb
    have Hpw := Lib.hid hpw
    have Hpt := Lib.hid hpt
    have Hsame := Lib.hid hsame
    have Hmaj := Lib.hid hmaj
    have hD1 : 1 ≤ D := hdr.1
    have hD5 : D ≤ 5 := by omega
    clear hok hl hw hlv hf hbd hbb hbr hdr hless hone hD hpv hpt ht hpp hpr hpw hzb hsame hmaj
    have hcall := iPluralityWinner_any _ k cp Al m cl ps lots _ hps3 (by omega) hcp hlo3 (by omega) hcl
    rw [Hpw.out] at hcall
    go_wp2_with fail
    refine hcall.mono ?_
    rintro e w4 ⟨rfl, hb4⟩
    have hs4 := hb4.size
    have hB4 := hB3.trans (hb4.mono (by omega))
    have hps4 := (hps3.below hb4).mono hs4
    clear hcall
    go_wp2_with (at_make; refine wpList_make_full _ rfl (.tmp 58) (.tmp 58) 30 rfl _ 4 i0 _ 1 Try.underlying30 hi0 hz0 hz1 .i64 .i64 m m m rfl rfl rfl rfl (by rw [hz2]; omega) (by unfold maxLen; omega) (Nat.le_refl _) ?_; intro w5 hown5 hg5)
    have own5 := madeB_own hown5
    have hb5 : Below w4.heap.size w4 w5 := (Below.refl _ _).grown hg5 (Nat.le_refl _) (by simp)
    have hs5 := hb5.size
    have hB5 := hB4.trans (hb5.mono (by omega))
    have hps5 := (hps4.below hb5).mono hs5
    clear hown5 hg5
    have hcall := iFirstCounts_any _ k cp _ m m ps (Bp.fresh m) _ hps5 (by omega) hcp (fresh_bools own5) (by omega) (Nat.le_refl _)
    rw [show (Bp.fresh m).length = m from Bp.fresh_len m, Hf.out] at hcall
    refine hcall.mono ?_
    rintro e w6 ⟨Ac, nc, cc, rfl, hcc, hnc, own6, hb6⟩
    have hs6 := hb6.size
    have hB6 := hB5.trans (hb6.mono (by omega))
    have hps6 := (hps5.below hb6).mono hs6
    rw [cres_yes rfl] at own6
    have hnm : nc = m := by have e1 := own6.len; rw [Bp.firsts_len, Bp.fresh_len] at e1; omega
    subst hnm
    have hi := own6.ints
    clear own6 own5 hcall
    obtain ⟨g3, o3, y, rfl, _, hy, ey⟩ := hi.at hpm
    have hyz : y = zb := by rw [← ey.out, Hzb.out]
    subst hyz
    have hx := fun x => calm_cell (W := w6) hy x
    have i3 : (0 : Int) ≤ (pn : Int) := by omega
    have i4 : (pn : Int) < (nc : Int) := by omega
    by_cases hDD : D = 1
    · have d1 : ((D : Int) != 1) = false := by simp; omega
      have d2 : ((D : Int) == 1) = true := by simp; omega
      have d3 : ((bn : Int) == (pn : Int)) = true := by rw [beq_iff_eq]; exact Hsame.out hDD
      have HDD := Lib.hid hDD
      clear hDD
      by_cases hle : 2 * y ≤ t
      · go_wp2_with fail
        refine wp_region_calm (by kernel_rfl) (by kernel_rfl) ?_
        repeat (go_big_quiet_step ((go_at_call 27; exact calm_call (iPilesTotal_val _ k cp ps t Hpt.out _ ((hps6.below (Calm.ok _)).mono (Calm.ok _).size) (by omega) hcp))))
        refine wpQuiet_nil ?_
        rintro _ ⟨⟨w7, hb7⟩, rfl⟩
        go_wp2_with fail
        go_ret
        exact ⟨rfl, hB6.trans (hb7.mono (by omega))⟩
      · have dle : decide (2 * y ≤ t) = false := decide_eq_false (by omega)
        go_wp2_with fail
        refine wp_region_calm (by kernel_rfl) (by kernel_rfl) ?_
        repeat (go_big_quiet_step ((go_at_call 27; exact calm_call (iPilesTotal_val _ k cp ps t Hpt.out _ ((hps6.below (Calm.ok _)).mono (Calm.ok _).size) (by omega) hcp))))
        refine wpQuiet_nil ?_
        rintro _ ⟨⟨w7, hb7⟩, rfl⟩
        go_wp2_with fail
        go_ret
        exact ⟨rfl, hB6.trans (hb7.mono (by omega))⟩
    · have d1 : ((D : Int) != 1) = true := by simp; omega
      have hle : 2 * y ≤ t := Hmaj.out hDD
      have HDD := Lib.hid hDD
      clear hDD
      go_wp2_with fail
      refine wp_region_calm (by kernel_rfl) (by kernel_rfl) ?_
      repeat (go_big_quiet_step ((go_at_call 27; exact calm_call (iPilesTotal_val _ k cp ps t Hpt.out _ ((hps6.below (Calm.ok _)).mono (Calm.ok _).size) (by omega) hcp))))
      refine wpQuiet_nil ?_
      rintro _ ⟨⟨w7, hb7⟩, rfl⟩
      go_wp2_with fail
      go_ret
      exact ⟨rfl, hB6.trans (hb7.mono (by omega))⟩
end Go.Proofs.Ytlbhbjhglkhbgaa
