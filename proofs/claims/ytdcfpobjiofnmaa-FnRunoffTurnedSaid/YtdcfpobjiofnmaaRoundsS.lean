/-
  The walk of the reference's RunoffRounds.
-/
import Derived.Test.YtdcfpobjiofnmaaRoundsI
import Derived.Test.YtdcfpobjiofnmaaLeast
namespace Go.Proofs.Ytdcfpobjiofnmaa
set_option linter.unusedVariables false
open Go.RowKit

/-- a row of truths of the call's own, not empty, lies in a block -/
theorem ownB_block {w : World} {base : Nat} {A : Option Addr} {n c : Nat} {zs : List Bool} (h : OwnB w base (.slice A n c) n zs) (hn : 0 < n) : ∃ g, A = some ⟨g, 0, none⟩ ∧ base ≤ g ∧ g < w.heap.size ∧ n ≤ c := by
  rcases h.2 with ⟨_, h0⟩ | ⟨g, cap, cur, e, _, _, hc, _⟩
  · omega
  · injection e with e1 e2 e3
    subst e1; subst e3
    have := h.row.lt g rfl
    exact ⟨g, rfl, this.1, this.2, hc⟩

theorem bools_one (l : List Bool) : ∀ u ∈ l.map Value.bool, u.oneCell' = true := by
  intro u hu
  obtain ⟨b, _, rfl⟩ := List.mem_map.1 hu
  rfl
theorem bools_copied {w : World} {base m : Nat} {v : Value} {lf : List Bool} (h : w.ownsRow base 4 1 v (0 + m) ([] ++ lf.map Value.bool)) (hm : 1 ≤ m) :
    ∃ g c, v = .slice (some ⟨g, 0, none⟩) m c ∧ base ≤ g ∧ g < w.heap.size ∧ m ≤ c ∧ OwnB w base (.slice (some ⟨g, 0, none⟩) m c) m lf := by
  rw [Nat.zero_add, List.nil_append] at h
  obtain ⟨A, c, rfl, _⟩ := own_slice h
  obtain ⟨g, rfl, h1, h2, h3⟩ := ownB_block (zs := lf) h hm
  exact ⟨g, c, rfl, h1, h2, h3, h⟩
set_option maxRecDepth 100000 in
set_option maxHeartbeats 8000000 in
theorem l12Rounds_any (A : Option Addr) (n c : Nat) (A' : Option Addr) (m c' : Nat) (ps : List Bp.Pile) (lots : List Int) (w : World) (h : Piles w w.heap.size A n ps) (hn : n ≤ 1048576) (h' : Ints w w.heap.size A' m lots) (hlv : Bp.lval lots = true) (hf : Bp.fits ps m = true) :
    Calls Try.prog 70 #[.slice A n c, .slice A' m c'] w fun e w' => ∃ (A3 : Option Addr) (k c3 : Nat), e = .returned (.slice A3 k c3) ∧ k ≤ c3 ∧ k ≤ 5 ∧ OwnRd w' w.heap.size [] (.slice A3 k c3) k (Bp.rounds ps lots) ∧ Below w.heap.size w w' := by
  have hl := h'.1
  have hm5 := Bp.lval_n hlv
  rw [hl] at hm5
  obtain ⟨m1, m5⟩ := hm5
  have Hl := Lib.hid hl
  have Hf := Lib.hid hf
  have Hlv := Lib.hid hlv
  clear hl hf hlv
  obtain ⟨i0, hi0, hz0, hz1, hz2⟩ := info_parts bool_info
  obtain ⟨j0, hj0, hy0, hy1, hy2⟩ := info_parts round_info
  go_enter Try.func70, Try.ntmps70
  go_wp2_with (at_make; refine wpList_make_full _ rfl (.tmp 12) (.tmp 12) 61 rfl _ 4 i0 _ 1 Try.underlying61 hi0 hz0 hz1 .i64 .i64 m m m rfl rfl rfl rfl (by rw [hz2]; omega) (by unfold maxLen; omega) (Nat.le_refl _) ?_; intro w2 hown2 hg2)
  have hsz2 : w.heap.size + 1 ≤ w2.heap.size := by
    have := hg2.size
    simpa using this
  have hb2 : Below w.heap.size w w2 := ((Below.refl _ _).alloc (Nat.le_refl _) _).grown hg2 (by simp) (fun g hg => by cases hg)
  have own2 : OwnB w2 w.heap.size (.slice (some ⟨w.heap.size + 1, 0, none⟩) m m) m (List.replicate m false) := by
    have := madeB_own hown2
    simp only [World.size_alloc] at this
    exact this.base (by omega)
  have ownR2 : OwnRd w2 w.heap.size [w.heap.size + 1] (.slice (some ⟨w.heap.size, 0, none⟩) 0 0) 0 [] := by
    have h0 : (w.alloc (.cells #[] 59)).ownsRow w.heap.size 59 2 (.slice (some ⟨w.heap.size, 0, none⟩) 0 0) 0 [] := World.ownsRow_lit w #[] 0 (Nat.le_refl _) (by decide) rfl
    exact ⟨[], rfl, h0.kept hg2 (.inr (fun e => by cases e)), Subs.nil .., fun y hy => ⟨fun e => by
      rw [List.mem_singleton.1 hy] at e
      exact absurd (Option.some.inj e : w.heap.size = w.heap.size + 1) (by omega), fun i hi => absurd hi (by simp)⟩⟩
  clear hown2 hg2
  go_loopw [5, 6, 7] (fun o l i wr => ∃ (k : Nat) (A3 : Option Addr) (c3 L cl : Nat) (lf : List Bool) (rs : List Bp.Rnd), o = .slice A3 k c3 ∧ l = .slice (some ⟨L, 0, none⟩) m cl ∧ i = .int .i64 k ∧ k ≤ c3 ∧ k < m ∧ m ≤ cl ∧ Hid (Went ps lots m k lf rs) ∧ OwnB wr w.heap.size (.slice (some ⟨L, 0, none⟩) m cl) m lf ∧ OwnRd wr w.heap.size [L] (.slice A3 k c3) k rs ∧ Below w.heap.size w wr) (fun _ _ i _ => m - (intOf i).toNat)
  case atStart => exact ⟨0, _, _, _, _, _, [], rfl, rfl, rfl, Nat.le_refl _, by omega, Nat.le_refl _, Went.start ps lots m Hl.out, own2, ownR2, hb2⟩
  case round =>
    obtain ⟨k, A3, c3, L, cl, lf, rs, rfl, rfl, rfl, hkc3, hkm, hmcl, hW, ownL, ownR, hb⟩ := hrel
    clear own2 ownR2 hb2
    have hz := hb.size
    have hlfl := Lib.hid hW.out.len
    have i1 : (0 : Int) ≤ (k : Int) := by omega
    have i2 : (k : Int) < (m : Int) := by omega
    go_wp2_with fail
    refine (sFirsts_any A _ n c m cl ps lf _ ((h.below hb).mono hz) ownL.bools hn Hf.out).mono ?_
    rintro e w3 ⟨gc, rfl, hgc, ownC, hb3⟩
    have hs3 := hb3.size
    have hB3 := hb.trans (hb3.mono hz)
    have ownL3 := ownL.keep hb3
    have ownR3 := (ownR.avoid (y := gc) hgc).keep hb3
    have hgcl := (ownC.row.lt gc rfl).2
    have ownC3 : Own w3 w.heap.size (.slice (some ⟨gc, 0, none⟩) m m) m (Bp.firsts ps lf) := ownC.base (by omega)
    have hLL := (ownL3.row.lt L rfl).2
    clear ownL ownR ownC
    have hbd : Bp.Bd (Bp.firsts ps lf) 1188 := Bp.firsts_bd (Bp.fits_val Hf.out)
    have Hbd := Lib.hid hbd
    clear hbd hb hb3
    go_wp2_with fail
    refine (l12Done_any _ _ m m m cl (Bp.firsts ps lf) lf _ _ _ ownC3.ints ownL3.bools rfl (by omega) 1188 Hbd.out (by omega)).mono ?_
    rintro e w5 ⟨rfl, hd5⟩
    have hb5 := hd5.below w3.heap.size
    have hs5 := hb5.size
    have ownC5 : Own w5 w.heap.size (.slice (some ⟨gc, 0, none⟩) m m) m (Bp.firsts ps lf) := ownC3.keep hb5
    have ownL5 := ownL3.keep hb5
    have ownR5 := ownR3.keep hb5
    have hB5 := hB3.trans (hb5.mono (by omega))
    clear hb5 ownC3 ownL3 ownR3 hB3 hd5
    cases hdn : Bp.rdone (Bp.firsts ps lf) lf
    · obtain ⟨hk1, ht0, hN⟩ := hW.out.next hkm Hlv.out Hl.out hdn
      have hr := Bp.least_range (counts := Bp.firsts ps lf) Hlv.out (by rw [hlfl.out, Hl.out]) ht0
      have Hr := Lib.hid hr
      have HN := Lib.hid hN
      have Ht0 := Lib.hid ht0
      clear hN hr hW ht0
      go_wp2_with fail
      refine (l12Least_any _ _ _ m m cl c' (Bp.firsts ps lf) lots lf _ ownC5.ints ownL5.bools ((h'.below hB5).mono (by omega)) Hlv.out Ht0.out 1188 Hbd.out (by omega)).mono ?_
      rintro e w6 ⟨rfl, hb6⟩
      have hs6 := hb6.size
      have ownC6 : Own w6 w.heap.size (.slice (some ⟨gc, 0, none⟩) m m) m (Bp.firsts ps lf) := ownC5.keep hb6
      have ownL6 := ownL5.keep hb6
      have ownR6 := ownR5.keep hb6
      have hB6 := hB5.trans (hb6.mono (by omega))
      clear hb6 ownC5 ownL5 ownR5 hB5
      obtain ⟨p, hp⟩ := Int.eq_ofNat_of_zero_le Hr.out.1
      have hpm : p < m := by
        have h1 := Hr.out.2.1
        rw [hp, Hl.out] at h1
        omega
      rw [hp]
      have Hp := Lib.hid hp
      clear hp Hr
      have i5 : (0 : Int) ≤ (p : Int) := by omega
      have i6 : (p : Int) < (m : Int) := by omega
      obtain ⟨vs, hR⟩ := ownR6.avoid (y := w6.heap.size) (Nat.le_refl _)
      have hrow := hR.2.1
      have HR := Lib.hid hR
      have hne : ((Value.slice A3 k c3).ownBlock : Option Nat) ≠ some L := (HR.out.2.2.2 L (by simp)).1
      have hal : ∀ o : Obj, Below w6.heap.size w6 (w6.alloc o) := fun o => (Below.refl w6.heap.size w6).alloc (Nat.le_refl _) o
      clear hR ownR6
      go_wp2_with (first | (at_builtin; refine wpList_append_own_at _ rfl (.tmp 35) (.tmp 39) 54 rfl w.heap.size 59 j0 _ 2 32 Try.underlying54 hj0 hy0 hy1 hy2 rfl (by decide) (.slice A3 k c3) k _ rfl (hrow.alloc _) ⟨w6.heap.size, 0, none⟩ 1 1 [.slice (some ⟨gc, 0, none⟩) m m, .int .i64 (p : Int)] rfl rfl (two_new _ _ _ _) (by simp [Value.oneCell']) (by unfold maxLen; omega) (by omega) (by simp; omega) ?_; intro v1 w7 hown7 hg7 _ hat7; obtain ⟨A4, c4, rfl, hkc1⟩ := own_slice hown7; have ownL7 : OwnB w7 w.heap.size (.slice (some ⟨L, 0, none⟩) m cl) m lf := (ownL6.keep (hal _)).row.kept hg7 (.inr hne.symm); have hal7 : ∀ o : Obj, Below w7.heap.size w7 (w7.alloc o) := fun o => (Below.refl w7.heap.size w7).alloc (Nat.le_refl _) o) | (at_builtin; refine wpList_append_own _ rfl (.tmp 41) (.tmp 42) 61 rfl w7.heap.size 4 i0 _ 1 1 Try.underlying61 hi0 hz0 hz1 hz2 rfl (by decide) (.slice (some ⟨w7.heap.size, 0, none⟩) 0 0) 0 [] rfl (World.ownsRow_lit w7 #[] 0 (Nat.le_refl _) (by decide) rfl) ⟨L, 0, none⟩ m cl (lf.map Value.bool) rfl (by rw [List.length_map, hlfl.out, Nat.mul_one]) ((ownL7.keep (hal7 _)).row.cells (g := L) rfl) (bools_one lf) (by unfold maxLen; omega) (by omega) (by simp) ?_; intro v2 w8 hown8 hg8 _; obtain ⟨g8, c8, rfl, hbg8, hlt8, hmc8, own8⟩ := bools_copied hown8 m1; obtain ⟨cL, fL⟩ := ownB_cell own8 p hpm))
      go_roundw
      case rel =>
        have hz7 : w6.heap.size ≤ w7.heap.size := Nat.le_trans (hal (.cells #[.slice (some ⟨gc, 0, none⟩) m m, .int .i64 (p : Int)] 59)).size hg7.size
        have hR' : OwnRd w7 w.heap.size [] (.slice A4 (k + 1) c4) (k + 1) (rs ++ [(Bp.firsts ps lf, (p : Int))]) :=
          ((HR.out.less (Y := [gc]) (by simp)).keep (hal _)).snoc (m := m) ownC6.len (ownC6.keep (hal _)) (fun y hy => by cases hy) hg7 hat7 hown7
        have hb7 : Below w.heap.size w w7 := (hB6.alloc (by omega) _).grown hg7 (by simp; omega) (fun g hg => (hrow.lt g hg).1)
        have hb78 : Below w7.heap.size w7 w8 := (hal7 _).grown hg8 (by simp) (fun g hg => by have e : w7.heap.size = g := Option.some.inj hg; omega)
        have hset := ownB_set own8 p true
        have hN := HN.out
        rw [Hp.out, Int.toNat_natCast] at hN
        have hb8 : Below w.heap.size w w8 := hb7.trans (hb78.mono (by omega))
        have hz8 := hb78.size
        exact ⟨k + 1, A4, c4, g8, c8, _, _, rfl, rfl, by go_num, hkc1, by omega, hmc8, hN, hset.1.base (by omega), ((hR'.avoid hbg8).keep hb78).only hset.2 (by simp), hb8.trans (below_only hset.2 (by omega) (by omega))⟩
      case measure => simp [intOf]; omega
    · have Hdn := Lib.hid hdn
      obtain ⟨vs, hR⟩ := ownR5
      have hrow := hR.2.1
      have HR := Lib.hid hR
      clear hR hdn
      go_wp2_with (at_builtin; refine wpList_append_own_at _ rfl (.tmp 26) (.tmp 29) 54 rfl w.heap.size 59 j0 _ 2 32 Try.underlying54 hj0 hy0 hy1 hy2 rfl (by decide) (.slice A3 k c3) k _ rfl (hrow.alloc _) ⟨w5.heap.size, 0, none⟩ 1 1 [.slice (some ⟨gc, 0, none⟩) m m, .int .i64 (-1)] rfl rfl (two_new _ _ _ _) (by simp [Value.oneCell']) (by unfold maxLen; omega) (by omega) (by simp; omega) ?_; intro v1 w6 hown6 hg6 _ hat6; obtain ⟨A4, c4, rfl, hkc1⟩ := own_slice hown6)
      go_ret
      have hR' : OwnRd w6 w.heap.size [] (.slice A4 (k + 1) c4) (k + 1) (rs ++ [(Bp.firsts ps lf, -1)]) := by
        refine ((HR.out.less (Y := [gc]) (by simp)).keep ((Below.refl w5.heap.size w5).alloc (Nat.le_refl _) _)).snoc (m := m) ownC5.len (ownC5.keep ((Below.refl w5.heap.size w5).alloc (Nat.le_refl _) _)) (fun y hy => by cases hy) hg6 hat6 hown6
      rw [← hW.out.last hkm Hdn.out] at hR'
      exact ⟨A4, k + 1, c4, rfl, hkc1, by omega, hR', (hB5.alloc (by omega) _).grown hg6 (by simp; omega) (fun g hg => (hrow.lt g hg).1)⟩
theorem rd_empty {w w' : World} {base : Nat} {v : Value} (h : w.ownsRow base 59 2 v 0 []) (hb : Below w.heap.size w w') : OwnRd w' base [] v 0 [] := ⟨[], rfl, own_keep h hb, Subs.nil .., fun y hy => by cases hy⟩
theorem rd_lit {w : World} {base : Nat} (h : base ≤ w.heap.size) : OwnRd (w.alloc (.cells #[] 59)) base [] (.slice (some ⟨w.heap.size, 0, none⟩) 0 0) 0 [] := rd_empty (World.ownsRow_lit w #[] 0 h (by decide) rfl) (Below.refl _ _)
set_option maxRecDepth 100000 in
set_option maxHeartbeats 8000000 in
theorem sRunoffRounds_any (A : Option Addr) (n c : Nat) (A' : Option Addr) (m c' : Nat) (ps : List Bp.Pile) (lots : List Int) (w : World) (h : Piles w w.heap.size A n ps) (hn : n ≤ 1048576) (h' : Ints w w.heap.size A' m lots) (hm : m ≤ 1048576) (hmc : m ≤ c') :
    Calls Try.prog 41 #[.slice A n c, .slice A' m c'] w (RoundsRes (Bp.ok ps lots) (Bp.rounds ps lots) w) := by
  have hl := h'.1
  cases hok : Bp.ok ps lots
  · rcases Bp.ok_no hok with hlv | ⟨hlv, hf⟩
    · have Hlv := Lib.hid hlv
      clear hok hl
      go_enter Try.func41, Try.ntmps41
      go_wp2_with (go_at_call 48; refine (sLotsValid_any A' m c' lots _ _ h' (by omega) hmc).mono ?_; rintro e w1 ⟨rfl, hd1⟩)
      go_ret2
      have hb1 := hd1.below w.heap.size
      exact ⟨_, 0, 0, rfl, Nat.le_refl _, by omega, by rw [rres_no rfl]; exact rd_lit hb1.size, hb1.alloc hb1.size _⟩
    · rw [hl] at hf
      have Hlv := Lib.hid hlv
      have Hf := Lib.hid hf
      clear hok hl
      go_enter Try.func41, Try.ntmps41
      go_wp2_with (go_at_call 48; refine (sLotsValid_any A' m c' lots _ _ h' (by omega) hmc).mono ?_; rintro e w1 ⟨rfl, hd1⟩)
      have hb1 := hd1.below w.heap.size
      have hs1 := hb1.size
      refine (l3Fits_any A n c m ps _ ((h.below hb1).mono hs1) hn).mono ?_
      rintro e w2 ⟨rfl, hb2⟩
      have hB2 := hb1.trans (hb2.mono hs1)
      have hs2 := hb2.size
      go_wp2_with fail
      go_ret2
      exact ⟨_, 0, 0, rfl, Nat.le_refl _, by omega, by rw [rres_no rfl]; exact rd_lit (by omega), hB2.alloc (by omega) _⟩
  · have hlv := Bp.ok_lval hok
    have hf := Bp.ok_fits hok
    rw [hl] at hf
    have Hf := Lib.hid hf
    have Hlv := Lib.hid hlv
    clear hok hl
    go_enter Try.func41, Try.ntmps41
    go_wp2_with (go_at_call 48; refine (sLotsValid_any A' m c' lots _ _ h' (by omega) hmc).mono ?_; rintro e w1 ⟨rfl, hd1⟩)
    have hb1 := hd1.below w.heap.size
    have hs1 := hb1.size
    refine (l3Fits_any A n c m ps _ ((h.below hb1).mono hs1) hn).mono ?_
    rintro e w2 ⟨rfl, hb2⟩
    have hB2 := hb1.trans (hb2.mono hs1)
    have hs2 := hb2.size
    go_wp2_with fail
    refine (l12Rounds_any A n c A' m c' ps lots _ ((h.below hB2).mono (by omega)) hn ((h'.below hB2).mono (by omega)) Hlv.out Hf.out).mono ?_
    rintro e w3 ⟨A3, k, c3, rfl, hkc, hk5, hown, hb3⟩
    go_wp2_with fail
    go_ret2
    exact ⟨A3, k, c3, rfl, hkc, hk5, by rw [rres_yes rfl]; exact hown.base (by omega), hB2.trans (hb3.mono (by omega))⟩
end Go.Proofs.Ytdcfpobjiofnmaa
