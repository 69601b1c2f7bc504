/-
  The walks of the reference's transfer: all steps, TransferSteps, TransferWinners.
-/
import Derived.Test.YtiglkajafdecgaaTransBest
import Derived.Test.YtiglkajafdecgaaTransWeigh
import Derived.Test.YtiglkajafdecgaaTransOut
import Derived.Test.YtiglkajafdecgaaTransLaw
import Derived.Test.YtiglkajafdecgaaTotals
import Derived.Test.YtiglkajafdecgaaRunoffSmall
namespace Go.Proofs.Ytiglkajafdecgaa
set_option linter.unusedVariables false
open Go.RowKit

theorem ownB_block' {w : World} {base : Nat} {A : Option Addr} {n c : Nat} {zs : List Bool} (h : OwnB w base (.slice A n c) n zs) (hn : 0 < n) : ∃ g, A = some ⟨g, 0, none⟩ ∧ base ≤ g ∧ g < w.heap.size ∧ n ≤ c := by
  rcases h.2 with ⟨_, h0⟩ | ⟨g, cap, cur, e, _, _, hc, _⟩
  · omega
  · injection e with e1 e2 e3
    subst e1; subst e3
    have := h.row.lt g rfl
    exact ⟨g, rfl, this.1, this.2, hc⟩
theorem bools_one' (l : List Bool) : ∀ u ∈ l.map Value.bool, u.oneCell' = true := by
  intro u hu
  obtain ⟨b, _, rfl⟩ := List.mem_map.1 hu
  rfl
theorem bools_copied' {w : World} {base m : Nat} {v : Value} {lf : List Bool} (h : w.ownsRow base 4 1 v (0 + m) ([] ++ lf.map Value.bool)) (hm : 1 ≤ m) :
    ∃ g c, v = .slice (some ⟨g, 0, none⟩) m c ∧ base ≤ g ∧ g < w.heap.size ∧ m ≤ c ∧ OwnB w base (.slice (some ⟨g, 0, none⟩) m c) m lf := by
  rw [Nat.zero_add, List.nil_append] at h
  obtain ⟨A, c, rfl, _⟩ := own_slice h
  obtain ⟨g, rfl, h1, h2, h3⟩ := ownB_block' (zs := lf) h hm
  exact ⟨g, c, rfl, h1, h2, h3, h⟩
theorem OwnS.only {w w' : World} {bs : Nat} {X : List Nat} {v : Value} {n : Nat} {ss : List Bp.Stp} (h : OwnS w bs X v n ss) {y : Nat} (hg : w.grownBy w' (some y)) (hy : y ∈ X) : OwnS w' bs X v n ss :=
  h.kept (grownBy_kept hg hy (Nat.le_refl _))
set_option maxRecDepth 100000 in
set_option maxHeartbeats 8000000 in
theorem l15Steps_any (A : Option Addr) (n c : Nat) (A' : Option Addr) (m c' : Nat) (seats : Int) (ps : List Bp.Pile) (lots : List Int) (w : World) (hPs : Piles w w.heap.size A n ps) (hn : n ≤ 1048576) (hIs : Ints w w.heap.size A' m lots) (hv : Bp.tval ps lots seats = true) :
    Calls Try.prog 35 #[.slice A n c, .slice A' m c', .int .i64 seats] w fun e w' => ∃ (A3 : Option Addr) (k c3 : Nat), e = .returned (.slice A3 k c3) ∧ k ≤ c3 ∧ k ≤ 5 ∧ OwnS w' w.heap.size [] (.slice A3 k c3) k (Bp.transfer ps lots seats) ∧ Below w.heap.size w w' := by
  have hl := Lib.hid hIs.1
  have hnl := Lib.hid hPs.1.1
  obtain ⟨hlv, hf, ⟨h1, h2, h3⟩, hs⟩ := (Bp.tval_iff ps lots seats).1 hv
  have hlen := Bp.fits_len hf
  have hps := Bp.psum_bd (Bp.fits_val hf)
  have hq := Bp.tquota_bd (Bp.fits_val hf) hs h1
  have hm5 := Bp.lval_n hlv
  have hst := Bp.tstart_ok (ps := ps) h1 h2 h3
  have Hpv := Lib.hid (Bp.fits_val hf)
  rw [hl.out] at hf hm5 h3 hst
  rw [hnl.out] at hlen
  obtain ⟨m1, m5⟩ := hm5
  have Hlv := Lib.hid hlv
  have Hf := Lib.hid hf
  have Hst := Lib.hid hst
  have hqd : Bp.tquota ps seats = Bp.psum ps / (seats + 1) + 1 := rfl
  obtain ⟨tot, htot⟩ : ∃ tot, Bp.psum ps = tot := ⟨_, rfl⟩
  rw [htot] at hps hqd
  have hs' := hs
  rw [htot] at hs'
  have hd0 : 0 ≤ tot / (seats + 1) := Int.ediv_nonneg hps.1 (by omega)
  have hd1 : tot / (seats + 1) ≤ tot := Int.ediv_le_self _ hps.1
  have Htot := Lib.hid htot
  have Hqd := Lib.hid hqd
  obtain ⟨i0, hi0, hz0, hz1, hz2⟩ := info_parts bool_info
  obtain ⟨k0, hk0, hx0, hx1, hx2⟩ := info_parts frac_info
  obtain ⟨j0, hj0, hy0, hy1, hy2⟩ := info_parts step_info
  clear hlv hf hst htot hqd hv
  go_enter Try.func35, Try.ntmps35
  go_wp2_with (at_make; refine wpList_make_full _ rfl (.tmp 18) (.tmp 18) 72 rfl _ 4 i0 _ 1 Try.underlying72 hi0 hz0 hz1 .i64 .i64 m m m rfl rfl rfl rfl (by rw [hz2]; omega) (by unfold maxLen; omega) (Nat.le_refl _) ?_; intro w2 hown2 hg2)
  have hsz2 : w.heap.size + 1 ≤ w2.heap.size := by
    have := hg2.size
    simpa using this
  have hb2 : Below w.heap.size w w2 := ((Below.refl _ _).alloc (Nat.le_refl _) _).grown hg2 (by simp) (fun g hg => by cases hg)
  have own2 : OwnB w2 w.heap.size (.slice (some ⟨w.heap.size + 1, 0, none⟩) m m) m (List.replicate m false) := by
    have := madeB_own hown2
    simp only [World.size_alloc] at this
    exact this.base (by omega)
  have ownR2 : OwnS w2 w.heap.size [w.heap.size + 1] (.slice (some ⟨w.heap.size, 0, none⟩) 0 0) 0 [] := by
    have h0 : (w.alloc (.cells #[] 47)).ownsRow w.heap.size 47 3 (.slice (some ⟨w.heap.size, 0, none⟩) 0 0) 0 [] := World.ownsRow_lit w #[] 0 (Nat.le_refl _) (by decide) rfl
    exact ⟨[], rfl, h0.kept hg2 (.inr (fun e => by cases e)), Subs.nil .., fun y hy => ⟨fun e => by
      rw [List.mem_singleton.1 hy] at e
      exact absurd (Option.some.inj e : w.heap.size = w.heap.size + 1) (by omega), fun i hi => absurd hi (by simp)⟩⟩
  clear hown2 hg2
  go_loopw [9, 10] (fun v i wr => ∃ (k g cc : Nat), k ≤ n ∧ i = .int .i64 k ∧ v = .slice (some ⟨g, 0, none⟩) k cc ∧ k ≤ cc ∧ OwnF wr w2.heap.size (.slice (some ⟨g, 0, none⟩) k cc) k (List.replicate k (1, 1)) ∧ Below w2.heap.size w2 wr) (fun _ i _ => n - (intOf i).toNat)
  case atStart => exact ⟨0, _, 0, Nat.zero_le _, rfl, rfl, Nat.le_refl _, World.ownsRow_lit w2 #[] 0 (Nat.le_refl _) (by decide) rfl, (by repeat (first | exact Below.refl _ _ | assumption | refine below_drewN ?_ _ | refine Below.drew ?_ | refine Below.alloc ?_ (by first | exact Nat.le_refl _ | omega | (simp; done) | (simp; omega)) _ | refine Below.setCell ?_ (by first | exact Nat.le_refl _ | omega | (simp; done) | (simp; omega)) _))⟩
  case round =>
    obtain ⟨k, g, cc, hk, rfl, rfl, hkc, hown, hb⟩ := hrel
    have hz := hb.size
    by_cases hlt : k < n
    · go_wp2_with (at_builtin; refine wpList_append_own _ rfl (.tmp 27) (.tmp 29) 45 rfl w2.heap.size 44 k0 _ 2 16 Try.underlying45 hk0 hx0 hx1 hx2 rfl (by decide) (.slice (some ⟨g, 0, none⟩) k cc) k _ rfl (hown.row.alloc _) ⟨wr.heap.size, 0, none⟩ 1 1 [.int .i64 1, .int .i64 1] rfl rfl (pair_one _ _ _ _) (by simp [Value.oneCell']) (by unfold maxLen; omega) (by omega) (by simp; omega) ?_; intro v1 w1 hown1 hg1 hv1; obtain ⟨g1, c1, rfl, hkc1, hgb1⟩ := own_form' hown1 (fun e => by have := hv1.1 e; cases this.1); clear hv1)
      go_roundw
      case rel => exact ⟨k + 1, g1, c1, by omega, by go_num, rfl, hkc1, by unfold OwnF; rw [fcells_rep]; exact hown1, (hb.alloc hz _).grown hg1 (by simp; omega) (fun g hg => (hown.row.lt g hg).1)⟩
      case measure => simp [intOf]; omega
    · have hkn : k = n := by omega
      subst hkn
      obtain ⟨wo, rfl⟩ : ∃ wo : World, wo = wr := ⟨_, rfl⟩
      obtain ⟨n, rfl⟩ : ∃ n : Nat, n = k := ⟨_, rfl⟩
      have hBo : Below w.heap.size w wo := hb2.trans (hb.mono (by omega))
      have ownLo := own2.keep hb
      have hgw := (hown.row.lt g rfl).1
      have ownRo := ((ownR2.avoid (y := g) hgw).keep hb).less (Y := [w.heap.size + 1, g]) (fun y hy => by simp at hy ⊢; omega)
      have ownWo : OwnF wo w.heap.size (.slice (some ⟨g, 0, none⟩) n cc) n (List.replicate n (1, 1)) := hown.base (by omega)
      clear hown own2 ownR2 hb hb2 hsz2
      go_wp2_with (go_at_call 53; refine (l3Total_any A n c ps _ wo (hPs.below hBo) (by omega) Hpv.out).mono ?_; rw [Htot.out]; rintro e w' ⟨rfl, rfl⟩)
      obtain ⟨q, hqe⟩ : ∃ q, Bp.tquota ps seats = q := ⟨_, rfl⟩
      have hqd2 := Hqd.out
      rw [hqe] at hq hqd2
      rw [← hqd2]
      have Hqe := Lib.hid hqe
      clear hqe hqd2
      go_loopw [2, 7, 8, 9, 12] (fun sv o l wv i wr => ∃ (k : Nat) (A3 : Option Addr) (c3 L cl W cw : Nat) (t : Bp.Tst) (f : Nat) (ss : List Bp.Stp), sv = .int .i64 t.s ∧ o = .slice A3 k c3 ∧ l = .slice (some ⟨L, 0, none⟩) m cl ∧ wv = .slice (some ⟨W, 0, none⟩) n cw ∧ i = .int .i64 k ∧ k ≤ c3 ∧ m ≤ cl ∧ k + f = m ∧ Hid (Bp.transfer ps lots seats = ss ++ Bp.tsteps ps lots q f t) ∧ Hid (Bp.Tok ps lots f t) ∧ OwnB wr w.heap.size (.slice (some ⟨L, 0, none⟩) m cl) m t.lf ∧ OwnF wr w.heap.size (.slice (some ⟨W, 0, none⟩) n cw) n (Bp.frs t.d t.u) ∧ OwnS wr w.heap.size [L, W] (.slice A3 k c3) k ss ∧ Below w.heap.size w wr) (fun _ _ _ _ i _ => m - (intOf i).toNat)
      case atStart =>
        refine ⟨0, _, _, _, _, _, _, _, m, [], rfl, rfl, rfl, rfl, rfl, Nat.le_refl _, Nat.le_refl _, by omega, ?_, Hst.out, ?_, ?_, ownRo, hBo⟩
        · show Bp.transfer ps lots seats = _
          unfold Bp.transfer
          rw [Hqe.out, hl.out]
          rfl
        · show OwnB _ _ _ _ (List.replicate lots.length false)
          rw [hl.out]
          exact ownLo
        · show OwnF _ _ _ _ (Bp.frs 1 (List.replicate ps.length 1))
          have e : Bp.frs 1 (List.replicate n 1) = List.replicate n (1, 1) := by
            unfold Bp.frs
            rw [List.map_replicate, Bp.fr_one]
          rw [hnl.out, e]
          exact ownWo
      case round =>
        obtain ⟨k, A3, c3, L, cl, W, cw, t, f, ss, rfl, rfl, rfl, rfl, rfl, hkc3, hmcl, hkf, hall, htok, ownL, ownW, ownR, hb⟩ := hrel
        clear ownLo ownWo ownRo hBo
        have hz := hb.size
        have hs2' := htok.out.two
        have hs0' := htok.out.s0
        have hsf' := htok.out.sf
        by_cases ht1 : 1 ≤ t.s
        · obtain ⟨f', rfl⟩ : ∃ f', f = f' + 1 := ⟨f - 1, by omega⟩
          have hkm : k < m := by omega
          have d5 : decide ((0 : Int) < t.s) = true := decide_eq_true (by omega)
          have i1 : (0 : Int) ≤ (k : Int) := by omega
          have i2 : (k : Int) < (m : Int) := by omega
          have td1 := htok.out.d1
          have td60 := htok.out.d60 ht1
          have hbd := Lib.hid (htok.out.bd Hpv.out hs)
          have hlfl : t.lf.length = m := by rw [htok.out.len]; exact hl.out
          have hul : t.u.length = n := by rw [htok.out.ul]; exact hnl.out
          go_wp2_with fail
          refine (l15Counts_any A n c _ cw _ m cl ps t.d t.u t.lf _ ((hPs.below hb).mono hz) ownW.view ownL.bools Hf.out td1 td60 htok.out.u hs hul).mono ?_
          rintro e w3 ⟨g, cg, rfl, hg, hmcg, ownG, hb3⟩
          have hs3 := hb3.size
          have hB3 := hb.trans (hb3.mono hz)
          have ownL3 := ownL.keep hb3
          have ownW3 := ownW.keep hb3
          have ownR3 := (ownR.avoid (y := g) hg).keep hb3
          have hLr := (ownL.row.lt L rfl).2
          have hWr := (ownW.row.lt W rfl).2
          have ownG3 : OwnF w3 w.heap.size (.slice (some ⟨g, 0, none⟩) m cg) m (Bp.frs t.d (t.ns ps)) := ownG.base (by omega)
          clear ownL ownW ownR ownG hb3
          go_wp2_with fail
          refine (l15Hi_any _ _ _ m cg cl c' t.d (t.ns ps) lots t.lf _ ownG3.view ownL3.bools ((hIs.below hB3).mono (by omega)) Hlv.out td1 td60 hbd.out).mono ?_
          rintro e w4 ⟨rfl, hb4⟩
          have hs4 := hb4.size
          have hB4 := hB3.trans (hb4.mono (by omega))
          have ownL4 := ownL3.keep hb4
          have ownW4 := ownW3.keep hb4
          have ownR4 := ownR3.keep hb4
          have ownG4 := ownG3.keep hb4
          have hk := t.kind_cases ps lots q
          obtain ⟨x, hx, htop, hhi⟩ := htok.out.hi Hlv.out
          obtain ⟨y, hy, hlo⟩ := Bp.lo_is (counts := t.ns ps) Hlv.out htok.out.len (by rw [htok.out.there]; omega)
          have hx' : Bp.hi (t.ns ps) t.lf lots = (x : Int) := hx
          rw [hx']
          have hxm := hhi.lt
          have hym := hlo.lt
          rw [hl.out] at hxm hym
          have hwho : t.who ps lots q = if t.kind ps lots q = 2 then (y : Int) else (x : Int) := by
            unfold Bp.Tst.who
            rw [hx]
            show (if t.kind ps lots q = 2 then Bp.least (t.ns ps) t.lf lots else _) = _
            rw [hy]
          have hbx := hbd.out x
          have hvx := Bp.fr_vld (d := t.d) (n := (t.ns ps).getD x 0) td1 (by omega) (by omega) (by omega)
          have hlw := Bp.fr_less_whole (d := t.d) (a := (t.ns ps).getD x 0) (q := q) td1 hvx (by omega) (by omega)
          have hvq : Fp.vld q 1 = true := by
            have := Bp.fr_vld (d := 1) (n := q) (by omega) (by omega) (by omega) (by omega)
            rwa [Bp.fr_one] at this
          have hth := htok.out.there
          obtain ⟨⟨x0, x1⟩, _, _⟩ := ownF_cell ownG4 x hxm
          have hnsl : (t.ns ps).length = m := by unfold Bp.Tst.ns; rw [Bp.nums_len]; exact hlfl
          rw [Bp.frs_at t.d (t.ns ps) (by omega)] at x0 x1
          obtain ⟨cs, hcs⟩ : ∃ cs, t.ns ps = cs := ⟨_, rfl⟩
          have Hcs := Lib.hid hcs
          rw [hcs] at hvx hlw hbx x0 x1 htop
          obtain ⟨xa, xb, hxab⟩ : ∃ xa xb, Bp.fr t.d (cs.getD x 0) = (xa, xb) := ⟨_, _, rfl⟩
          rw [hxab] at x0 x1 hvx hlw
          dsimp only at x0 x1 hvx hlw
          obtain ⟨v, hv⟩ : ∃ v, decide (cs.getD x 0 < q * t.d) = v := ⟨_, rfl⟩
          rw [hv] at hlw
          have Hlw := Lib.hid hlw
          have Hv := Lib.hid hv
          have Hvx := Lib.hid hvx
          have Hvq := Lib.hid hvq
          have Hxab := Lib.hid hxab
          have Hwho := Lib.hid hwho
          have Hy := Lib.hid hy
          have Hx := Lib.hid hx
          have hnext := htok.out.next (q := q) Hlv.out Hpv.out hs hq.1 ht1
          have Hnext := Lib.hid hnext
          have hall' : Bp.transfer ps lots seats = (ss ++ [t.stp ps lots q]) ++ Bp.tsteps ps lots q f' (t.next ps lots q) := by
            rw [hall.out, Bp.tsteps_go ps lots q ht1 f', List.append_assoc]
            rfl
          have Hall := Lib.hid hall'
          have i5 : (0 : Int) ≤ (x : Int) := by omega
          have i6 : (x : Int) < (m : Int) := by omega
          have i7 : (0 : Int) ≤ (y : Int) := by omega
          have i8 : (y : Int) < (m : Int) := by omega
          clear ownL3 ownW3 ownR3 ownG3 hB3 hb4 hx hy hx' hwho hhi hlo hvx hvq hxab hlw hv hcs hnext hall' hall hb
          go_wp2_with fail
          refine (sFracLess_val xa xb q 1 _ _ Hvx.out Hvq.out Hlw.out).mono ?_
          rintro e w5 ⟨rfl, hb5⟩
          have hs5 := hb5.size
          have hB5 := hB4.trans (hb5.mono (by omega))
          have ownL5 := ownL4.keep hb5
          have ownW5 := ownW4.keep hb5
          have ownR5 := ownR4.keep hb5
          have ownG5 := ownG4.keep hb5
          have hgl5 : g < w4.heap.size := (ownG4.row.lt g rfl).2
          have y0 := (hb5.cell (p := ⟨g, x * 2, none⟩) hgl5).trans x0
          have y1 := (hb5.cell (p := ⟨g, x * 2 + 1, none⟩) hgl5).trans x1
          clear ownL4 ownW4 ownR4 ownG4 hB4 hb5 x0 x1
          cases v
          · have hv := Hv.out
            rw [decide_eq_false_iff_not] at hv
            have hkd : t.kind ps lots q = 1 := by rw [htop] at hk; omega
            have hwx : t.who ps lots q = (x : Int) := by rw [Hwho.out, if_neg (by omega)]
            have hcall := l15Weigh_any A n c (some ⟨W, 0, none⟩) cw (some ⟨L, 0, none⟩) m cl (x : Int) ps t.d (cs.getD x 0) q t.u t.lf w5 ((hPs.below hB5).mono (by omega)) ownW5.view ownL5.bools Hf.out td1 td60 (by have := Int.mul_le_mul hq.1 td1 (by omega) (by omega); omega) (by omega) hq.1 hq.2 (by omega) htok.out.u hul
            rw [Hxab.out] at hcall
            simp only at hcall
            have Hcall := Lib.hid hcall
            clear hcall
            go_wp2_with fail
            refine Hcall.out.mono ?_
            rintro e w6 ⟨W6, cw6, rfl, hW6, hncw6, ownW6, hb6⟩
            have hs6 := hb6.size
            have hB6 := hB5.trans (hb6.mono (by omega))
            have ownL6 := ownL5.keep hb6
            have ownR6 := ((ownR5.avoid (y := W6) hW6).keep hb6).less (Y := [g, L, W6]) (fun y hy => by simp at hy ⊢; omega)
            have hWg : W6 ≠ g := by omega
            have hLg : L ≠ g := by omega
            have ownG6 := ownG5.keep hb6
            have hdd : (t.next ps lots q).d = t.d * cs.getD x 0 := (if_pos hkd).trans (by rw [htop])
            have huu : (t.next ps lots q).u = Bp.weigh ps t.u t.lf (x : Int) (cs.getD x 0 - q * t.d) (cs.getD x 0) := (if_pos hkd).trans (by rw [htop, Hx.out])
            have hss : (t.next ps lots q).s = t.s - 1 := if_neg (by omega)
            have ownX : OwnF w6 w.heap.size (.slice (some ⟨W6, 0, none⟩) n cw6) n (Bp.frs (t.next ps lots q).d (t.next ps lots q).u) := by rw [hdd, huu]; exact ownW6.base (by omega)
            have hwr1 : IntKind.i64.wrap (t.s - 1) = t.s - 1 := IntWalk.i64_in _ (by omega)
            clear ownL5 ownW5 ownR5 ownG5 hB5 hb6 y0 y1 ownW6 Hcall hk
            obtain ⟨vs, hR⟩ := ownR6
            have hrow := hR.2.1
            have HR := Lib.hid hR
            have hal : ∀ o : Obj, Below w6.heap.size w6 (w6.alloc o) := fun o => (Below.refl w6.heap.size w6).alloc (Nat.le_refl _) o
            have hlL6 := (ownL6.row.lt L rfl).2
            have hlX6 := (ownX.row.lt W6 rfl).2
            have hneL := (HR.out.2.2.2 L (by simp)).1
            have hneW := (HR.out.2.2.2 W6 (by simp)).1
            clear hR
            go_wp2_with (first | (at_builtin; refine wpList_append_own_at _ rfl (.tmp 87) (.tmp 92) 37 rfl w.heap.size 47 j0 _ 3 40 Try.underlying37 hj0 hy0 hy1 hy2 rfl (by decide) (.slice A3 k c3) k _ rfl (hrow.alloc _) ⟨w6.heap.size, 0, none⟩ 1 1 [.slice (some ⟨g, 0, none⟩) m cg, .int .i64 (x : Int), .int .i64 1] rfl rfl (three_new _ _ _ _ _) (by simp [Value.oneCell']) (by unfold maxLen; omega) (by omega) (by simp; omega) ?_; intro v1 w7 hown7 hg7 _ hat7; obtain ⟨A4, c4, rfl, hkc1⟩ := own_slice hown7; have ownL7 : OwnB w7 w.heap.size (.slice (some ⟨L, 0, none⟩) m cl) m t.lf := (ownL6.keep (hal _)).row.kept hg7 (.inr hneL.symm); have ownX7 : OwnF w7 w.heap.size (.slice (some ⟨W6, 0, none⟩) n cw6) n (Bp.frs (t.next ps lots q).d (t.next ps lots q).u) := (ownX.keep (hal _)).row.kept hg7 (.inr hneW.symm); have hal7 : ∀ o : Obj, Below w7.heap.size w7 (w7.alloc o) := fun o => (Below.refl w7.heap.size w7).alloc (Nat.le_refl _) o) | (at_builtin; refine wpList_append_own _ rfl (.tmp 94) (.tmp 95) 72 rfl w7.heap.size 4 i0 _ 1 1 Try.underlying72 hi0 hz0 hz1 hz2 rfl (by decide) (.slice (some ⟨w7.heap.size, 0, none⟩) 0 0) 0 [] rfl (World.ownsRow_lit w7 #[] 0 (Nat.le_refl _) (by decide) rfl) ⟨L, 0, none⟩ m cl (t.lf.map Value.bool) rfl (by rw [List.length_map, hlfl, Nat.mul_one]) ((ownL7.keep (hal7 _)).row.cells (g := L) rfl) (bools_one' t.lf) (by unfold maxLen; omega) (by omega) (by simp) ?_; intro v2 w8 hown8 hg8 _; obtain ⟨g8, c8, rfl, hbg8, hlt8, hmc8, own8⟩ := bools_copied' hown8 m1; obtain ⟨cL, fL⟩ := ownB_cell own8 x hxm))
            go_roundw
            case rel =>
              have hz7 : w6.heap.size ≤ w7.heap.size := Nat.le_trans (hal (.cells #[.slice (some ⟨g, 0, none⟩) m cg, .int .i64 (x : Int), .int .i64 1] 47)).size hg7.size
              have hR7 : OwnS w7 w.heap.size [L, W6] (.slice A4 (k + 1) c4) (k + 1) (ss ++ [t.stp ps lots q]) := by
                refine (HR.out.keep (hal _)).snoc (s := t.stp ps lots q) (m := m) ownG6.len (ownG6.keep (hal _)) (fun z9 hz9 => ?_) hg7 hat7 ?_
                · simp only [List.mem_cons, List.not_mem_nil, or_false] at hz9
                  have := (hal (.cells #[.slice (some ⟨g, 0, none⟩) m cg, .int .i64 (x : Int), .int .i64 1] 47)).size
                  omega
                · rw [show (t.stp ps lots q).who = (x : Int) from hwx, show (t.stp ps lots q).kind = 1 from hkd]
                  exact hown7
              have hb7 : Below w.heap.size w w7 := (hB6.alloc (by omega) _).grown hg7 (by simp; omega) (fun g hg => (hrow.lt g hg).1)
              have hb78 : Below w7.heap.size w7 w8 := (hal7 _).grown hg8 (by simp) (fun g hg => by have e : w7.heap.size = g := Option.some.inj hg; omega)
              have hset := ownB_set own8 x true
              have hb8 : Below w.heap.size w w8 := hb7.trans (hb78.mono (by omega))
              have hz8 := hb78.size
              have hlf : (t.next ps lots q).lf = t.lf.set x true := by
                show t.lf.set (t.who ps lots q).toNat true = _
                rw [hwx, Int.toNat_natCast]
              have ownX8 := ownX7.keep hb78
              have hX8 : W6 ≠ g8 := by omega
              refine ⟨k + 1, A4, c4, g8, c8, W6, cw6, t.next ps lots q, f', _, by rw [hss], rfl, rfl, rfl, by go_num, hkc1, hmc8, by omega, Hall.out, Hnext.out, ?_, ?_, ?_, ?_⟩
              · rw [hlf]
                exact hset.1.base (by omega)
              · exact ownX8.row.kept hset.2 (.inr (fun e => hX8 (Option.some.inj e)))
              · exact (((hR7.avoid hbg8).keep hb78).less (Y := [g8, W6]) (fun y hy => by simp at hy ⊢; omega)).only hset.2 (by simp)
              · exact hb8.trans (below_only hset.2 (by omega) (by omega))
            case measure => simp [intOf]; omega
          · have hv := Hv.out
            rw [decide_eq_true_iff] at hv
            have hmany := l12Many_any (some ⟨L, 0, none⟩) m cl t.lf _ w5 ownL5.bools (by omega)
            rw [hth] at hmany
            have Hmany := Lib.hid hmany
            have hLg : L ≠ g := by omega
            have hWg : W ≠ g := by omega
            clear hmany
            by_cases hle : ((f' + 1 : Nat) : Int) ≤ t.s
            · have hkd : t.kind ps lots q = 3 := by rw [htop, hth] at hk; omega
              have hwx : t.who ps lots q = (x : Int) := by rw [Hwho.out, if_neg (by omega)]
              have dl : decide (((f' + 1 : Nat) : Int) ≤ t.s) = true := decide_eq_true hle
              have hdd : (t.next ps lots q).d = t.d := if_neg (by omega)
              have huu : (t.next ps lots q).u = t.u := if_neg (by omega)
              have hss : (t.next ps lots q).s = t.s - 1 := if_neg (by omega)
              have hwr1 : IntKind.i64.wrap (t.s - 1) = t.s - 1 := IntWalk.i64_in _ (by omega)
              obtain ⟨w6, rfl⟩ : ∃ w6 : World, w6 = w5 := ⟨_, rfl⟩
              have hB6 := hB5
              have ownL6 := ownL5
              have ownG6 := ownG5
              have ownR6 := ownR5
              have ownX : OwnF w6 w.heap.size (.slice (some ⟨W, 0, none⟩) n cw) n (Bp.frs (t.next ps lots q).d (t.next ps lots q).u) := by rw [hdd, huu]; exact ownW5
              clear ownL5 ownW5 ownR5 ownG5 hB5 y0 y1 hk
              go_upto_region 23 with (go_at_call 58; refine Hmany.out.mono ?_; rintro e w' ⟨rfl, rfl⟩)
              obtain ⟨vs, hR⟩ := ownR6
              have hrow := hR.2.1
              have HR := Lib.hid hR
              have hal : ∀ o : Obj, Below w6.heap.size w6 (w6.alloc o) := fun o => (Below.refl w6.heap.size w6).alloc (Nat.le_refl _) o
              have hlL6 := (ownL6.row.lt L rfl).2
              have hlX6 := (ownX.row.lt W rfl).2
              have hneL := (HR.out.2.2.2 L (by simp)).1
              have hneW := (HR.out.2.2.2 W (by simp)).1
              clear hR
              go_wp2_with (first | (at_builtin; refine wpList_append_own_at _ rfl (.tmp 87) (.tmp 92) 37 rfl w.heap.size 47 j0 _ 3 40 Try.underlying37 hj0 hy0 hy1 hy2 rfl (by decide) (.slice A3 k c3) k _ rfl (hrow.alloc _) ⟨w6.heap.size, 0, none⟩ 1 1 [.slice (some ⟨g, 0, none⟩) m cg, .int .i64 (x : Int), .int .i64 3] rfl rfl (three_new _ _ _ _ _) (by simp [Value.oneCell']) (by unfold maxLen; omega) (by omega) (by simp; omega) ?_; intro v1 w7 hown7 hg7 _ hat7; obtain ⟨A4, c4, rfl, hkc1⟩ := own_slice hown7; have ownL7 : OwnB w7 w.heap.size (.slice (some ⟨L, 0, none⟩) m cl) m t.lf := (ownL6.keep (hal _)).row.kept hg7 (.inr hneL.symm); have ownX7 : OwnF w7 w.heap.size (.slice (some ⟨W, 0, none⟩) n cw) n (Bp.frs (t.next ps lots q).d (t.next ps lots q).u) := (ownX.keep (hal _)).row.kept hg7 (.inr hneW.symm); have hal7 : ∀ o : Obj, Below w7.heap.size w7 (w7.alloc o) := fun o => (Below.refl w7.heap.size w7).alloc (Nat.le_refl _) o) | (at_builtin; refine wpList_append_own _ rfl (.tmp 94) (.tmp 95) 72 rfl w7.heap.size 4 i0 _ 1 1 Try.underlying72 hi0 hz0 hz1 hz2 rfl (by decide) (.slice (some ⟨w7.heap.size, 0, none⟩) 0 0) 0 [] rfl (World.ownsRow_lit w7 #[] 0 (Nat.le_refl _) (by decide) rfl) ⟨L, 0, none⟩ m cl (t.lf.map Value.bool) rfl (by rw [List.length_map, hlfl, Nat.mul_one]) ((ownL7.keep (hal7 _)).row.cells (g := L) rfl) (bools_one' t.lf) (by unfold maxLen; omega) (by omega) (by simp) ?_; intro v2 w8 hown8 hg8 _; obtain ⟨g8, c8, rfl, hbg8, hlt8, hmc8, own8⟩ := bools_copied' hown8 m1; obtain ⟨cL, fL⟩ := ownB_cell own8 x hxm))
              go_roundw
              case rel =>
                have hz7 : w6.heap.size ≤ w7.heap.size := Nat.le_trans (hal (.cells #[.slice (some ⟨g, 0, none⟩) m cg, .int .i64 (x : Int), .int .i64 3] 47)).size hg7.size
                have hR7 : OwnS w7 w.heap.size [L, W] (.slice A4 (k + 1) c4) (k + 1) (ss ++ [t.stp ps lots q]) := by
                  refine (HR.out.keep (hal _)).snoc (s := t.stp ps lots q) (m := m) ownG6.len (ownG6.keep (hal _)) (fun z9 hz9 => ?_) hg7 hat7 ?_
                  · simp only [List.mem_cons, List.not_mem_nil, or_false] at hz9
                    have := (hal (.cells #[.slice (some ⟨g, 0, none⟩) m cg, .int .i64 (x : Int), .int .i64 3] 47)).size
                    omega
                  · rw [show (t.stp ps lots q).who = (x : Int) from hwx, show (t.stp ps lots q).kind = 3 from hkd]
                    exact hown7
                have hb7 : Below w.heap.size w w7 := (hB6.alloc (by omega) _).grown hg7 (by simp; omega) (fun g hg => (hrow.lt g hg).1)
                have hb78 : Below w7.heap.size w7 w8 := (hal7 _).grown hg8 (by simp) (fun g hg => by have e : w7.heap.size = g := Option.some.inj hg; omega)
                have hset := ownB_set own8 x true
                have hb8 : Below w.heap.size w w8 := hb7.trans (hb78.mono (by omega))
                have hz8 := hb78.size
                have hlf : (t.next ps lots q).lf = t.lf.set x true := by
                  show t.lf.set (t.who ps lots q).toNat true = _
                  rw [hwx, Int.toNat_natCast]
                have ownX8 := ownX7.keep hb78
                have hX8 : W ≠ g8 := by omega
                refine ⟨k + 1, A4, c4, g8, c8, W, cw, t.next ps lots q, f', _, by rw [hss], rfl, rfl, rfl, by go_num, hkc1, hmc8, by omega, Hall.out, Hnext.out, ?_, ?_, ?_, ?_⟩
                · rw [hlf]
                  exact hset.1.base (by omega)
                · exact ownX8.row.kept hset.2 (.inr (fun e => hX8 (Option.some.inj e)))
                · exact (((hR7.avoid hbg8).keep hb78).less (Y := [g8, W]) (fun y hy => by simp at hy ⊢; omega)).only hset.2 (by simp)
                · exact hb8.trans (below_only hset.2 (by omega) (by omega))
              case measure => simp [intOf]; omega
            · have hkd : t.kind ps lots q = 2 := by rw [htop, hth] at hk; omega
              have hwx : t.who ps lots q = (y : Int) := by rw [Hwho.out, if_pos hkd]
              have dl : decide (((f' + 1 : Nat) : Int) ≤ t.s) = false := decide_eq_false hle
              have hdd : (t.next ps lots q).d = t.d := if_neg (by omega)
              have huu : (t.next ps lots q).u = t.u := if_neg (by omega)
              have hss : (t.next ps lots q).s = t.s := if_pos hkd
              have hwr1 : IntKind.i64.wrap (t.s - 1) = t.s - 1 := IntWalk.i64_in _ (by omega)
              go_wp2_with (go_at_call 58; refine Hmany.out.mono ?_; rintro e w' ⟨rfl, rfl⟩)
              refine (l15Lo_any _ _ _ m cg cl c' t.d (t.ns ps) lots t.lf _ (by rw [Hcs.out] at ownG5 ⊢; exact ownG5.view) ownL5.bools ((hIs.below hB5).mono (by omega)) Hlv.out td1 td60 hbd.out).mono ?_
              rintro e w6 ⟨rfl, hb6⟩
              have hle' : Bp.least (t.ns ps) t.lf lots = (y : Int) := Hy.out
              rw [hle']
              have hs6 := hb6.size
              have hB6 := hB5.trans (hb6.mono (by omega))
              have ownL6 := ownL5.keep hb6
              have ownG6 := ownG5.keep hb6
              have ownR6 := ownR5.keep hb6
              have ownX : OwnF w6 w.heap.size (.slice (some ⟨W, 0, none⟩) n cw) n (Bp.frs (t.next ps lots q).d (t.next ps lots q).u) := by rw [hdd, huu]; exact ownW5.keep hb6
              clear ownL5 ownW5 ownR5 ownG5 hB5 y0 y1 hk hb6 hle'
              obtain ⟨vs, hR⟩ := ownR6
              have hrow := hR.2.1
              have HR := Lib.hid hR
              have hal : ∀ o : Obj, Below w6.heap.size w6 (w6.alloc o) := fun o => (Below.refl w6.heap.size w6).alloc (Nat.le_refl _) o
              have hlL6 := (ownL6.row.lt L rfl).2
              have hlX6 := (ownX.row.lt W rfl).2
              have hneL := (HR.out.2.2.2 L (by simp)).1
              have hneW := (HR.out.2.2.2 W (by simp)).1
              clear hR
              go_wp2_with (first | (at_builtin; refine wpList_append_own_at _ rfl (.tmp 87) (.tmp 92) 37 rfl w.heap.size 47 j0 _ 3 40 Try.underlying37 hj0 hy0 hy1 hy2 rfl (by decide) (.slice A3 k c3) k _ rfl (hrow.alloc _) ⟨w6.heap.size, 0, none⟩ 1 1 [.slice (some ⟨g, 0, none⟩) m cg, .int .i64 (y : Int), .int .i64 2] rfl rfl (three_new _ _ _ _ _) (by simp [Value.oneCell']) (by unfold maxLen; omega) (by omega) (by simp; omega) ?_; intro v1 w7 hown7 hg7 _ hat7; obtain ⟨A4, c4, rfl, hkc1⟩ := own_slice hown7; have ownL7 : OwnB w7 w.heap.size (.slice (some ⟨L, 0, none⟩) m cl) m t.lf := (ownL6.keep (hal _)).row.kept hg7 (.inr hneL.symm); have ownX7 : OwnF w7 w.heap.size (.slice (some ⟨W, 0, none⟩) n cw) n (Bp.frs (t.next ps lots q).d (t.next ps lots q).u) := (ownX.keep (hal _)).row.kept hg7 (.inr hneW.symm); have hal7 : ∀ o : Obj, Below w7.heap.size w7 (w7.alloc o) := fun o => (Below.refl w7.heap.size w7).alloc (Nat.le_refl _) o) | (at_builtin; refine wpList_append_own _ rfl (.tmp 94) (.tmp 95) 72 rfl w7.heap.size 4 i0 _ 1 1 Try.underlying72 hi0 hz0 hz1 hz2 rfl (by decide) (.slice (some ⟨w7.heap.size, 0, none⟩) 0 0) 0 [] rfl (World.ownsRow_lit w7 #[] 0 (Nat.le_refl _) (by decide) rfl) ⟨L, 0, none⟩ m cl (t.lf.map Value.bool) rfl (by rw [List.length_map, hlfl, Nat.mul_one]) ((ownL7.keep (hal7 _)).row.cells (g := L) rfl) (bools_one' t.lf) (by unfold maxLen; omega) (by omega) (by simp) ?_; intro v2 w8 hown8 hg8 _; obtain ⟨g8, c8, rfl, hbg8, hlt8, hmc8, own8⟩ := bools_copied' hown8 m1; obtain ⟨cL, fL⟩ := ownB_cell own8 y hym))
              go_roundw
              case rel =>
                have hz7 : w6.heap.size ≤ w7.heap.size := Nat.le_trans (hal (.cells #[.slice (some ⟨g, 0, none⟩) m cg, .int .i64 (y : Int), .int .i64 2] 47)).size hg7.size
                have hR7 : OwnS w7 w.heap.size [L, W] (.slice A4 (k + 1) c4) (k + 1) (ss ++ [t.stp ps lots q]) := by
                  refine (HR.out.keep (hal _)).snoc (s := t.stp ps lots q) (m := m) ownG6.len (ownG6.keep (hal _)) (fun z9 hz9 => ?_) hg7 hat7 ?_
                  · simp only [List.mem_cons, List.not_mem_nil, or_false] at hz9
                    have := (hal (.cells #[.slice (some ⟨g, 0, none⟩) m cg, .int .i64 (y : Int), .int .i64 2] 47)).size
                    omega
                  · rw [show (t.stp ps lots q).who = (y : Int) from hwx, show (t.stp ps lots q).kind = 2 from hkd]
                    exact hown7
                have hb7 : Below w.heap.size w w7 := (hB6.alloc (by omega) _).grown hg7 (by simp; omega) (fun g hg => (hrow.lt g hg).1)
                have hb78 : Below w7.heap.size w7 w8 := (hal7 _).grown hg8 (by simp) (fun g hg => by have e : w7.heap.size = g := Option.some.inj hg; omega)
                have hset := ownB_set own8 y true
                have hb8 : Below w.heap.size w w8 := hb7.trans (hb78.mono (by omega))
                have hz8 := hb78.size
                have hlf : (t.next ps lots q).lf = t.lf.set y true := by
                  show t.lf.set (t.who ps lots q).toNat true = _
                  rw [hwx, Int.toNat_natCast]
                have ownX8 := ownX7.keep hb78
                have hX8 : W ≠ g8 := by omega
                refine ⟨k + 1, A4, c4, g8, c8, W, cw, t.next ps lots q, f', _, by rw [hss], rfl, rfl, rfl, by go_num, hkc1, hmc8, by omega, Hall.out, Hnext.out, ?_, ?_, ?_, ?_⟩
                · rw [hlf]
                  exact hset.1.base (by omega)
                · exact ownX8.row.kept hset.2 (.inr (fun e => hX8 (Option.some.inj e)))
                · exact (((hR7.avoid hbg8).keep hb78).less (Y := [g8, W]) (fun y hy => by simp at hy ⊢; omega)).only hset.2 (by simp)
                · exact hb8.trans (below_only hset.2 (by omega) (by omega))
              case measure => simp [intOf]; omega
        · have ht0 : t.s ≤ 0 := by omega
          have d5 : decide ((0 : Int) < t.s) = false := decide_eq_false (by omega)
          have hfin : Bp.transfer ps lots seats = ss := by rw [hall.out, Bp.tsteps_stop ps lots q ht0, List.append_nil]
          have Hfin := Lib.hid hfin
          clear hfin hall
          by_cases hkm : k < m
          · have i1 : (0 : Int) ≤ (k : Int) := by omega
            have i2 : (k : Int) < (m : Int) := by omega
            go_wp2_with fail
            go_ret
            exact ⟨A3, k, c3, rfl, hkc3, by omega, by rw [Hfin.out]; exact ownR.less (fun y hy => by cases hy), hb⟩
          · have hkm' : ¬ (k : Int) < (m : Int) := by omega
            have hkm2 : m ≤ k := by omega
            go_wp2_with fail
            go_ret
            exact ⟨A3, k, c3, rfl, hkc3, by omega, by rw [Hfin.out]; exact ownR.less (fun y hy => by cases hy), hb⟩
end Go.Proofs.Ytiglkajafdecgaa
