/-
  The walk of the reference's RunoffWinner.
-/
import Derived.Test.YtdcfpobjiofnmaaRunoffWin
import Derived.Deep.RegionHeld
namespace Go.Proofs.Ytdcfpobjiofnmaa
set_option linter.unusedVariables false
open Go.RowKit

theorem Bp.stays_snoc (l : List Bool) (k : Nat) (h : k < l.length) : (Bp.stays l).take (k + 1) = (Bp.stays l).take k ++ [!l.getD k false] := by
  rw [List.take_succ_eq_append_getElem (by rw [Bp.stays_len]; exact h)]
  simp [Bp.stays, List.getD, h]
set_option maxRecDepth 100000 in
set_option maxHeartbeats 400000 in
theorem l12Stay_any (A : Option Addr) (n c : Nat) (left : List Bool) (w : World) (h : Bools w w.heap.size A n left) (hn : n ≤ 1048576) :
    Calls Try.prog 44 #[.slice A n c] w (MadeB n (Bp.stays left) w) := by
  have hl := Lib.hid h.1
  obtain ⟨i0, hi0, hz0, hz1, hz2⟩ := info_parts bool_info
  go_enter Try.func44, Try.ntmps44
  go_wp2
  go_loopw [3, 4] (fun v i wr => ∃ k : Nat, k ≤ n ∧ i = .int .i64 k ∧ (∃ A c, v = .slice A k c ∧ k ≤ c ∧ OwnB wr w.heap.size (.slice A k c) k ((Bp.stays left).take k)) ∧ Below w.heap.size w wr) (fun _ i _ => n - (intOf i).toNat)
  case atStart => exact ⟨0, Nat.zero_le _, rfl, ⟨_, 0, rfl, Nat.le_refl _, World.ownsRow_lit w #[] 0 (Nat.le_refl _) (by decide) rfl⟩, (by repeat (first | exact Below.refl _ _ | assumption | refine below_drewN ?_ _ | refine Below.drew ?_ | refine Below.alloc ?_ (by first | exact Nat.le_refl _ | omega | (simp; done) | (simp; omega)) _ | refine Below.setCell ?_ (by first | exact Nat.le_refl _ | omega | (simp; done) | (simp; omega)) _))⟩
  case round =>
    obtain ⟨k, hk, rfl, ⟨A2, c2, rfl, hkc, hown⟩, hb⟩ := hrel
    have hz := hb.size
    by_cases hlt : k < n
    · obtain ⟨g, o, y, rfl, _, hc, hy⟩ := (h.below hb).at hlt
      have Hs := Lib.hid (Bp.stays_snoc left k (by rw [hl.out]; exact hlt))
      go_wp2_with (at_builtin; refine wpList_append_own _ rfl (.tmp 12) (.tmp 18) 61 rfl w.heap.size 4 i0 _ 1 1 Try.underlying61 hi0 hz0 hz1 hz2 rfl (by decide) (.slice A2 k c2) k _ rfl (hown.row.alloc _) ⟨wr.heap.size, 0, none⟩ 1 1 [.bool (!y)] rfl rfl (cell_one_new _ _ _) (by simp [Value.oneCell']) (by unfold maxLen; omega) (by omega) (by simp; omega) ?_; intro v1 w1 hown1 hg1 _; obtain ⟨A1, c1, rfl, hkc1⟩ := own_slice hown1)
      go_roundw
      case rel => exact ⟨k + 1, by omega, by go_num, ⟨A1, c1, rfl, hkc1, by unfold OwnB; rw [Hs.out, hy.out, List.map_append]; exact hown1⟩, (hb.alloc hz _).grown hg1 (by simp; omega) (fun g hg => (hown.row.lt g hg).1)⟩
      case measure => simp [intOf]; omega
    · have hkn : k = n := by omega
      have hT : OwnB wr w.heap.size (.slice A2 k c2) n (Bp.stays left) := by
        have e : (Bp.stays left).take k = Bp.stays left := List.take_of_length_le (by rw [Bp.stays_len, hl.out]; omega)
        rw [e] at hown
        rw [← hkn]; exact hown
      subst hkn
      go_wp2_with fail
      go_ret
      exact ⟨A2, c2, rfl, hkc, hT, hb⟩
set_option maxRecDepth 100000 in
set_option maxHeartbeats 8000000 in
theorem sRunoffWinner_any (A : Option Addr) (n c : Nat) (A' : Option Addr) (m c' : Nat) (ps : List Bp.Pile) (lots : List Int) (w : World) (h : Piles w w.heap.size A n ps) (hn : n ≤ 1048576) (h' : Ints w w.heap.size A' m lots) (hm : m ≤ 1048576) (hmc : m ≤ c') :
    Calls Try.prog 16 #[.slice A n c, .slice A' m c'] w fun e w' => e = .returned (.int .i64 (Bp.rwinner ps lots)) ∧ Below w.heap.size w w' := by
  have hl := h'.1
  have hcall := sRunoffRounds_any A n c A' m c' ps lots w h hn h' hm hmc
  cases hok : Bp.ok ps lots
  · have H := Lib.hid (Bp.rwinner_no hok)
    rw [hok] at hcall
    have Hcall := Lib.hid hcall
    clear hok hl hcall
    go_enter Try.func16, Try.ntmps16
    go_wp2_with fail
    refine Hcall.out.mono ?_
    rintro e w1 ⟨A1, n1, c1, rfl, hc1, hn1, hown, hb1⟩
    go_wp2_with fail
    go_ret
    exact ⟨ret_int H.out.symm, hb1⟩
  · have hlv := Bp.ok_lval hok
    have hf := Bp.ok_fits hok
    have H := Lib.hid ((Bp.rwin_most ps lots hlv hf).trans (Bp.rwinner_yes hok).symm)
    rw [hok] at hcall
    have Hcall := Lib.hid hcall
    have hm5 := Bp.lval_n hlv
    have hr := fun j (hj : j < m) => Bp.lval_at hlv j (by rw [hl]; exact hj)
    rw [hl] at hf hm5 hr
    obtain ⟨m1, m5⟩ := hm5
    have Hl := Lib.hid hl
    have Hlv := Lib.hid hlv
    have Hf := Lib.hid hf
    have Hr := Lib.hid hr
    have Hro := Lib.hid (Bp.rounds_ok ps lots hlv)
    obtain ⟨rs, hrs⟩ : ∃ rs, Bp.rounds ps lots = rs := ⟨_, rfl⟩
    have Hrs := Lib.hid hrs
    clear hok hl hcall hf hlv hrs hr
    obtain ⟨i0, hi0, hz0, hz1, hz2⟩ := info_parts bool_info
    go_enter Try.func16, Try.ntmps16
    go_wp2_with fail
    refine Hcall.out.mono ?_
    rintro e w1 ⟨A1, n1, c1, rfl, hc1, hn1, hown, hb1⟩
    rw [rres_yes rfl, Hrs.out] at hown
    have hlen := hown.len
    have h1 := Hro.out.1
    rw [Hrs.out, hlen] at h1
    have hs1 := hb1.size
    have hv := hown.view
    obtain ⟨p, hp⟩ : ∃ p, n1 = p + 1 := ⟨n1 - 1, by omega⟩
    obtain ⟨g, o, A3, m3, c3, zs, out, rfl, hg, hc3, hmc3, hz3, hco3, hrp⟩ := hv.at (k := p) (by omega)
    have hm3 : m3 = m := by
      have h2 := Bp.counts_len (ps := ps) Hlv.out (k := p) (by rw [Hrs.out, hlen]; omega)
      rw [Hrs.out, hrp.out, Hl.out] at h2
      have h3 := hz3.1
      simp only at h2
      omega
    subst hm3
    have e1 : (n1 : Int) - 1 = (p : Int) := by omega
    have e2 : IntKind.i64.wrap (p : Int) = (p : Int) := wrap_small _ (by omega) (by omega)
    have i1 : (0 : Int) ≤ (p : Int) := by omega
    have i2 : (p : Int) < (n1 : Int) := by omega
    have Hlen := Lib.hid hlen
    have Hp := Lib.hid hp
    clear hown hlen hp h1
    go_wp2_with (at_make; refine wpList_make_full _ rfl (.tmp 18) (.tmp 18) 61 rfl _ 4 i0 _ 1 Try.underlying61 hi0 hz0 hz1 .i64 .i64 m3 m3 m3 rfl rfl rfl rfl (by rw [hz2]; omega) (by unfold maxLen; omega) (Nat.le_refl _) ?_; intro w2 hown2 hg2)
    have own2 := madeB_own hown2
    have hb2 : Below w1.heap.size w1 w2 := (Below.refl _ _).grown hg2 (Nat.le_refl _) (by simp)
    have hs2 := hb2.size
    clear hown2 hg2
    go_loopw [8] (fun i wr => ∃ k : Nat, k ≤ p ∧ i = .int .i64 k ∧ OwnB wr w1.heap.size (.slice (some ⟨w1.heap.size, 0, none⟩) m3 m3) m3 (Bp.leftAfter (List.replicate m3 false) rs k) ∧ Below w1.heap.size w1 wr) (fun i _ => p - (intOf i).toNat)
    case atStart => exact ⟨0, Nat.zero_le _, rfl, own2, hb2⟩
    case round =>
      clear own2 hb2
      obtain ⟨k, hk, rfl, hown, hb⟩ := hrel
      have hz := hb.size
      by_cases hlt : k < p
      · obtain ⟨g', o', A5, m5', c5, zs5, out5, hA, _, hcr, _, _, hcr2, hrr⟩ := (hv.below hb).at (k := k) (by have := Hp.out; omega)
        injection hA with hA; injection hA with e3 e4
        subst e3; subst e4
        have hor := Bp.out_range (ps := ps) Hlv.out (k := k) (by rw [Hrs.out, Hlen.out]; have := Hp.out; omega)
        rw [Hrs.out, hrr.out, Hl.out] at hor
        simp only at hor
        obtain ⟨q, rfl⟩ := Int.eq_ofNat_of_zero_le hor.1
        have hqm : q < m3 := by omega
        have i3 : (0 : Int) ≤ (k : Int) := by omega
        have i4 : (k : Int) + 1 < (n1 : Int) := by have := Hp.out; omega
        have i4' : (k : Int) < (n1 : Int) := by omega
        have i5 : (0 : Int) ≤ (q : Int) := by omega
        have i6 : (q : Int) < (m3 : Int) := by omega
        obtain ⟨cq, fq⟩ := ownB_cell hown q hqm
        have hset := ownB_set hown q true
        go_wp2_with fail
        go_roundw
        case rel =>
          have hk2 : Bp.leftAfter (List.replicate m3 false) rs (k + 1) = (Bp.leftAfter (List.replicate m3 false) rs k).set q true := by rw [Bp.leftAfter, hrr.out, Int.toNat_natCast]
          refine ⟨k + 1, by omega, ?_, ?_, ?_⟩
          · go_num
          · rw [hk2]; exact hset.1
          · exact hb.trans (below_only hset.2 (Nat.le_refl _) (by omega))
        case measure => simp [intOf]; omega
      · have hkp : k = p := by omega
        rw [hkp] at hown
        have i4 : ¬ (k : Int) + 1 < (n1 : Int) := by have := Hp.out; omega
        have hbw : Below w.heap.size w wr := hb1.trans (hb.mono hs1)
        have H2 := H.out
        rw [Hrs.out, Hlen.out, show n1 - 1 = p by have := Hp.out; omega, hrp.out, Hl.out] at H2
        have hbd : Bp.Bd zs 1188 := by
          have h4 := Hro.out.2.2 p (by rw [Hrs.out, Hlen.out]; have := Hp.out; omega)
          have h5 := h4.counts
          rw [Hrs.out, hrp.out] at h5
          simp only at h5
          rw [h5]
          exact Bp.firsts_bd (Bp.fits_val Hf.out)
        have hzl : zs.length = m3 := hz3.1
        simp only at H2
        rw [hzl] at H2
        have HH := Lib.hid H2
        have Hbd := Lib.hid hbd
        have hcp := (hb.cell (p := ⟨g, o + p * 2, none⟩) hg).trans hc3
        have hzw := (hz3.below hb).mono hz
        clear hkp hv hbd H2 hc3 hco3 hz3
        go_wp2_with fail
        have hdr : Below wr.heap.size wr wr.drew := (Below.refl _ _).drew
        have hownD : OwnB wr.drew w1.heap.size (.slice (some ⟨w1.heap.size, 0, none⟩) m3 m3) m3 (Bp.leftAfter (List.replicate m3 false) rs p) := hown.keep hdr
        have hcD : wr.drew.cell? ⟨g, o + p * 2, none⟩ = some (.slice A3 m3 c3) := hcp
        have hzD : Ints wr.drew wr.drew.heap.size A3 m3 zs := hzw.below hdr
        have hlD : Ints wr.drew w.heap.size A' m3 lots := (h'.below hbw).below ((Below.refl _ _).drew)
        have hbD : Below w.heap.size w wr.drew := hbw.drew
        have hgD : g < wr.drew.heap.size := by show g < wr.heap.size; omega
        have hsD : w.heap.size ≤ wr.drew.heap.size := by show w.heap.size ≤ wr.heap.size; omega
        clear hown hcp hzw hbw hdr
        go_region_held (fun w' => w'.cell? ⟨g, o + p * 2, none⟩ = some (.slice A3 m3 c3)) (go_keep)
          (first | (go_at_call 44; refine (l12Stay_any (some ⟨w1.heap.size, 0, none⟩) m3 m3 _ wr.drew (hownD.bools) (by omega)).mono ?_; rintro e w5 ⟨A5, c5, rfl, hc5, own5, hb5⟩; have hcE := (hb5.cell (p := ⟨g, o + p * 2, none⟩) hgD).trans hcD) | (go_at_call 43; refine (l11Most_any A3 A5 m3 c3 m3 c5 zs _ _ ((hzD.below hb5).mono hb5.size) own5.bools (by omega) (Nat.le_refl _) 1188 Hbd.out (by omega)).mono ?_; rintro e w6 ⟨A6, c6, rfl, hc6, own6, hb6⟩; have hcF := (hb6.cell (p := ⟨g, o + p * 2, none⟩) (Nat.lt_of_lt_of_le hgD hb5.size)).trans hcE) | (go_at_call 42; refine (l4First_any A' A6 m3 c' m3 c6 lots _ _ _ _ ((hlD.below (hb5.mono hsD)).below (hb6.mono (Nat.le_trans hsD hb5.size))) own6.bools (by omega) Hr.out).mono ?_; rintro e w7 ⟨rfl, rfl⟩))
        all_goals
          go_wp2_with fail
          go_ret
          exact ⟨ret_int HH.out, (hbD.trans (hb5.mono hsD)).trans (hb6.mono (Nat.le_trans hsD hb5.size))⟩
end Go.Proofs.Ytdcfpobjiofnmaa
