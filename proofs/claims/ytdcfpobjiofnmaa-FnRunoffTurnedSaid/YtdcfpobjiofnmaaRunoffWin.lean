/-
  The walks of RunoffWinner: the program's and the reference's.
-/
import Derived.Test.YtdcfpobjiofnmaaRoundsS
namespace Go.Proofs.Ytdcfpobjiofnmaa
set_option linter.unusedVariables false
open Go.RowKit

theorem eql_nil (w : World) (a : Option Addr) (n c n' c' : Nat) : (binOp .eql 31 (.slice a n c) (.slice none n' c')).run Try.prog w = .ok (.bool a.isNone) w := Lib.run_eql_slice_nil w _ _ a n c n' c' Try.underlying31
theorem ints_news {w : World} {b off n : Nat} {zs : List Int} (h : Ints w w.heap.size (some ⟨b, off, none⟩) n zs) (o : Obj) : ∀ j u, (zs.map (Value.int .i64))[j]? = some u → (w.alloc o).cell? ((⟨b, off, none⟩ : Addr).add j) = some u := by
  intro j u hj
  have hjn : j < zs.length := by simpa using (List.getElem?_eq_some_iff.1 hj).1
  obtain ⟨g, o', e, hg, hc⟩ := h.2 (by rw [← h.1]; omega)
  injection e with e
  injection e with e1 e2
  subst e1; subst e2
  have := hc j (by rw [← h.1]; exact hjn)
  rw [Addr.add_lit]
  refine (((Below.refl w.heap.size w).alloc (Nat.le_refl _) o).cell (p := ⟨b, off + j, none⟩) hg).trans (this.trans ?_)
  rw [← hj]
  simp [List.getD, hjn]
theorem ints_one (l : List Int) : ∀ u ∈ l.map (Value.int .i64), u.oneCell' = true := by
  intro u hu
  obtain ⟨b, _, rfl⟩ := List.mem_map.1 hu
  rfl
theorem ints_copied {w : World} {base m : Nat} {v : Value} {zs : List Int} (h : w.ownsRow base 3 1 v (0 + m) ([] ++ zs.map (Value.int .i64))) (hm : 1 ≤ m) :
    ∃ g c, v = .slice (some ⟨g, 0, none⟩) m c ∧ base ≤ g ∧ m ≤ c ∧ Own w base (.slice (some ⟨g, 0, none⟩) m c) m zs := by
  rw [Nat.zero_add, List.nil_append] at h
  obtain ⟨A, c, rfl, _⟩ := own_slice h
  rcases h.2 with ⟨_, h0⟩ | ⟨g, cap, cur, e, hb, _, hc, _⟩
  · omega
  · injection e with e1 e2 e3
    subst e1; subst e3
    exact ⟨g, c, rfl, hb, hc, h⟩
set_option maxRecDepth 100000 in
set_option maxHeartbeats 4000000 in
theorem slicesClone_any (b off n c : Nat) (zs : List Int) (w : World) (h : Ints w w.heap.size (some ⟨b, off, none⟩) n zs) (hn : n ≤ 1048576) (hn1 : 1 ≤ n) :
    Calls Try.prog 39 #[.slice (some ⟨b, off, none⟩) n c] w fun e w' => ∃ g c, e = .returned (.slice (some ⟨g, 0, none⟩) n c) ∧ w.heap.size ≤ g ∧ n ≤ c ∧ Own w' w.heap.size (.slice (some ⟨g, 0, none⟩) n c) n zs ∧ Below w.heap.size w w' := by
  obtain ⟨i0, hi0, hz0, hz1, hz2⟩ := info_parts int_info
  have hl := Lib.hid h.1
  have H := Lib.hid h
  clear h
  have q22 := eql_nil
  go_enter Try.func39, Try.ntmps39
  go_wp2_with (at_builtin; refine wpList_append_own _ rfl (.tmp 5) (.tmp 6) 31 rfl w.heap.size 3 i0 _ 1 8 Try.underlying31 hi0 hz0 hz1 hz2 rfl (by decide) (.slice (some ⟨w.heap.size, 0, none⟩) 0 0) 0 [] rfl (World.ownsRow_lit w #[] 0 (Nat.le_refl _) (by decide) rfl) ⟨b, off, none⟩ n c (zs.map (Value.int .i64)) rfl (by rw [List.length_map, hl.out, Nat.mul_one]) (ints_news H.out _) (ints_one zs) (by unfold maxLen; omega) (by omega) (by simp) ?_; intro v1 w1 hown1 hg1 _; obtain ⟨g, c1, rfl, hg, hc1, hown⟩ := ints_copied hown1 hn1)
  go_ret
  exact ⟨g, c1, rfl, hg, hc1, hown, ((Below.refl _ w).alloc (Nat.le_refl _) _).grown hg1 (by simp) (fun g hg => by have e : w.heap.size = g := Option.some.inj hg; omega)⟩
namespace Bp
theorem out_range {ps : List Pile} {lots : List Int} (hl : lval lots = true) {k : Nat} (hk : k + 1 < (rounds ps lots).length) : 0 ≤ ((rounds ps lots).getD k default).2 ∧ ((rounds ps lots).getD k default).2 < lots.length := by
  obtain ⟨_, h2, h3⟩ := rounds_ok ps lots hl
  have h4 := h3 k (by omega)
  obtain ⟨_, h6⟩ := h4.goes hk
  have ht := h4.there
  have hr := least_range (counts := firsts ps (leftAfter (List.replicate lots.length false) (rounds ps lots) k)) hl (by rw [leftAfter_len]; simp) (left := leftAfter (List.replicate lots.length false) (rounds ps lots) k) (by rw [ht]; omega)
  rw [h6]
  exact ⟨hr.1, hr.2.1⟩
theorem counts_len {ps : List Pile} {lots : List Int} (hl : lval lots = true) {k : Nat} (hk : k < (rounds ps lots).length) : ((rounds ps lots).getD k default).1.length = lots.length := by
  obtain ⟨_, _, h3⟩ := rounds_ok ps lots hl
  rw [(h3 k hk).counts, firsts_len, leftAfter_len]; simp
/-- the winner of a runoff, or -1 -/
def rwinner (ps : List Pile) (lots : List Int) : Int := if ok ps lots then rwin ps lots else -1
theorem rwinner_yes {ps : List Pile} {lots : List Int} (h : ok ps lots = true) : rwinner ps lots = rwin ps lots := by simp [rwinner, h]
theorem rwinner_no {ps : List Pile} {lots : List Int} (h : ok ps lots = false) : rwinner ps lots = -1 := by simp [rwinner, h]
end Bp
theorem own_at_block {w : World} {base g n c : Nat} {zs : List Int} (h : Own w base (.slice (some ⟨g, 0, none⟩) n c) n zs) : g < w.heap.size := (h.row.lt g rfl).2

set_option maxRecDepth 100000 in
set_option maxHeartbeats 8000000 in
theorem iRunoffWinner_any (A : Option Addr) (n c : Nat) (A' : Option Addr) (m c' : Nat) (ps : List Bp.Pile) (lots : List Int) (w : World) (h : Piles w w.heap.size A n ps) (hn : n ≤ 1048576) (hnc : n ≤ c) (h' : Ints w w.heap.size A' m lots) (hm : m ≤ 1048576) (hmc : m ≤ c') :
    Calls Try.prog 15 #[.slice A n c, .slice A' m c'] w fun e w' => e = .returned (.int .i64 (Bp.rwinner ps lots)) ∧ Below w.heap.size w w' := by
  have hl := h'.1
  have hcall := iRunoffRounds_any A n c A' m c' ps lots w h hn hnc h' hm hmc
  cases hok : Bp.ok ps lots
  · have H := Lib.hid (Bp.rwinner_no hok)
    rw [hok] at hcall
    have Hcall := Lib.hid hcall
    clear hok hl hcall
    go_enter Try.func15, Try.ntmps15
    go_wp2_with fail
    refine Hcall.out.mono ?_
    rintro e w1 ⟨A1, n1, c1, rfl, hc1, hn1, hown, hb1⟩
    go_wp2_with fail
    go_ret
    exact ⟨ret_int H.out.symm, hb1⟩
  · have H := Lib.hid (Bp.rwinner_yes hok)
    rw [hok] at hcall
    have Hcall := Lib.hid hcall
    have hlv := Bp.ok_lval hok
    have hf := Bp.ok_fits hok
    have hm5 := Bp.lval_n hlv
    rw [hl] at hf hm5
    obtain ⟨m1, m5⟩ := hm5
    have Hl := Lib.hid hl
    have Hlv := Lib.hid hlv
    have Hro := Lib.hid (Bp.rounds_ok ps lots hlv)
    obtain ⟨rs, hrs⟩ : ∃ rs, Bp.rounds ps lots = rs := ⟨_, rfl⟩
    have Hrs := Lib.hid hrs
    clear hok hl hcall hf hlv hrs
    go_enter Try.func15, Try.ntmps15
    go_wp2_with fail
    refine Hcall.out.mono ?_
    rintro e w1 ⟨A1, n1, c1, rfl, hc1, hn1, hown, hb1⟩
    rw [rres_yes rfl, Hrs.out] at hown
    have hlen := hown.len
    have h1 := Hro.out.1
    rw [Hrs.out, hlen] at h1
    have hs1 := hb1.size
    have hv := hown.view
    obtain ⟨p, hp⟩ : ∃ p, n1 = p + 1 := ⟨n1 - 1, by omega⟩
    obtain ⟨g, o, A3, m3, c3, zs, out, rfl, hg, hc3, hmc3, hz3, hco3, hrp⟩ := hv.at (k := p) (by omega)
    have hm3 : m3 = m := by
      have h2 := Bp.counts_len (ps := ps) Hlv.out (k := p) (by rw [Hrs.out, hlen]; omega)
      rw [Hrs.out, hrp.out, Hl.out] at h2
      have h3 := hz3.1
      simp only at h2
      omega
    subst hm3
    obtain ⟨g4, o4, z4, rfl, _, _, _⟩ := hz3.at (k := 0) (by omega)
    have e1 : (n1 : Int) - 1 = (p : Int) := by omega
    have e2 : IntKind.i64.wrap (p : Int) = (p : Int) := wrap_small _ (by omega) (by omega)
    have i1 : (0 : Int) ≤ (p : Int) := by omega
    have i2 : (p : Int) < (n1 : Int) := by omega
    have Hlen := Lib.hid hlen
    have Hp := Lib.hid hp
    clear hown hlen hp h1
    go_wp2_with fail
    refine (slicesClone_any g4 o4 m3 c3 zs w1 hz3 (by omega) (by omega)).mono ?_
    rintro e w2 ⟨gc, cc, rfl, hgc, hmcc, ownC, hb2⟩
    have hs2 := hb2.size
    clear hz3 hc3 hco3
    go_wp2_with fail
    go_loopw [32] (fun i wr => ∃ k : Nat, k ≤ p ∧ i = .int .i64 k ∧ Own wr w1.heap.size (.slice (some ⟨gc, 0, none⟩) m3 cc) m3 (Bp.cutTo zs rs k) ∧ Below w1.heap.size w1 wr) (fun i _ => p - (intOf i).toNat)
    case atStart => exact ⟨0, Nat.zero_le _, rfl, ownC, hb2⟩
    case round =>
      obtain ⟨k, hk, rfl, hown, hb⟩ := hrel
      have hz := hb.size
      by_cases hlt : k < p
      · obtain ⟨g', o', A5, m5', c5, zs5, out5, hA, _, hcr, _, _, hcr2, hrr⟩ := (hv.below hb).at (k := k) (by have := Hp.out; omega)
        injection hA with hA; injection hA with e3 e4
        subst e3; subst e4
        have hor := Bp.out_range (ps := ps) Hlv.out (k := k) (by rw [Hrs.out, Hlen.out]; have := Hp.out; omega)
        rw [Hrs.out, hrr.out, Hl.out] at hor
        simp only at hor
        obtain ⟨q, rfl⟩ := Int.eq_ofNat_of_zero_le hor.1
        have hqm : q < m3 := by omega
        have i3 : (0 : Int) ≤ (k : Int) := by omega
        have i4 : (k : Int) < (p : Int) := by omega
        have i5 : (0 : Int) ≤ (q : Int) := by omega
        have i6 : (q : Int) < (m3 : Int) := by omega
        have hgl := own_at_block hown
        have hal : Below wr.heap.size wr (wr.alloc (.cells #[.slice A5 m5' c5, .int .i64 (q : Int)] 59)) := (Below.refl _ _).alloc (Nat.le_refl _) _
        have hown2 := hown.keep hal
        obtain ⟨cq, fq⟩ := own_cell hown2 q hqm
        have hset := own_only_set hown q (-1)
        go_wp2_with fail
        go_roundw
        case rel =>
          have hk2 : Bp.cutTo zs rs (k + 1) = (Bp.cutTo zs rs k).set q (-1) := by rw [Bp.cutTo, hrr.out, Int.toNat_natCast]
          have hsz : (wr.setCell ⟨gc, q, none⟩ (.int .i64 (-1))).heap.size = wr.heap.size := by simp
          refine ⟨k + 1, by omega, ?_, ?_, ?_⟩
          · go_num
          · rw [hk2]
            exact hset.1.keep ((Below.refl _ _).alloc (Nat.le_refl _) _)
          · exact (hb.trans (below_only hset.2 hgc (by omega))).alloc (by omega) _
        case measure => simp [intOf]; omega
      · have hkp : k = p := by omega
        rw [hkp] at hown
        have hwin : Bp.rwin ps lots = Bp.best (Bp.cutTo zs rs p) lots := by
          unfold Bp.rwin
          rw [Hrs.out, Hlen.out, show n1 - 1 = p by have := Hp.out; omega, hrp.out]
        have H2 := Lib.hid (H.out.trans hwin)
        have hbw : Below w.heap.size w wr := hb1.trans (hb.mono hs1)
        have hi := hown.ints
        have Hkp := Lib.hid hkp
        clear hkp hwin hown hv
        go_wp2_with fail
        refine (greatest_any _ A' m3 cc m3 c' _ lots _ _ _ hi (h'.below hbw) Hlv.out rfl).mono ?_
        rintro e w4 ⟨rfl, hd4⟩
        go_wp2_with fail
        go_ret
        exact ⟨ret_int H2.out.symm, hbw.trans (hd4.below _)⟩
end Go.Proofs.Ytdcfpobjiofnmaa
