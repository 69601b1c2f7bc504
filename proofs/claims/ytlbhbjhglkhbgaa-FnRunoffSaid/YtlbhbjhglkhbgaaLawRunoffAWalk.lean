/-
  The walk of FnRunoff.
-/
import Derived.Test.YtlbhbjhglkhbgaaLawRunoffWalk
namespace Go.Proofs.Ytlbhbjhglkhbgaa
set_option linter.unusedVariables false
open Go.RowKit

set_option maxRecDepth 100000 in
set_option maxHeartbeats 4000000 in
theorem lawRunoff_any (A : Option Addr) (n c : Nat) (w : World) (h : Bytes w w.heap.size A n) (hn : n ≤ 9223372036854775807) (hc : n ≤ c) :
    Calls Try.prog 9 #[.slice A n c] w fun e w' => e = .returned (.bool true) ∧ Below w.heap.size w w' := by
  by_cases hb : 1048576 < n
  · go_enter Try.func9, Try.ntmps9
    go_wp2_with fail
    go_ret
    exact ⟨rfl, Below.refl _ _⟩
  obtain ⟨i0, hi0, hz0, hz1, hz2⟩ := info_parts bool_info
  go_enter Try.func9, Try.ntmps9
  go_wp2_with fail
  refine (drawRunoffRounds_some A n c _ h hn hc).mono ?_
  rintro e w1 ⟨gp, k, cp, Al, m, cl, ps, lots, rfl, hcp, hkp, hcl, hml, hps, hlo, hb1⟩
  have hs1 := hb1.size
  go_wp2_with fail
  refine (iRunoffRounds_any _ k cp Al m cl ps lots _ hps (by omega) hcp hlo (by omega) hcl).mono ?_
  rintro e w2 ⟨A1, n1, c1, rfl, hc1, hn1, hown, hb2⟩
  have hs2 := hb2.size
  have hps2 := (hps.below hb2).mono hs2
  have hlo2 := (hlo.below hb2).mono hs2
  have hB2 := hb1.trans (hb2.mono hs1)
  go_wp2_with fail
  refine (sRunoffRounds_any _ k cp Al m cl ps lots _ hps2 (by omega) hlo2 (by omega) hcl).mono ?_
  rintro e w3 ⟨A2, n2, c2, rfl, hc2, hn2, hown2, hb3⟩
  have hs3 := hb3.size
  have hps3 := (hps2.below hb3).mono hs3
  have hlo3 := (hlo2.below hb3).mono hs3
  have hB3 := hB2.trans (hb3.mono (by omega))
  have hv1 := hown.view
  have hv := (hv1.below hb3).mono hs3
  have hv2 := hown2.view
  have hl := hlo.1
  clear hps hps2 hlo2 hlo hown2 hv1 hown
  cases hok : Bp.ok ps lots
  · rw [hok, rres_no rfl] at hv hv2
    have hcall := sameRounds_any _ _ n1 c1 n2 c2 [] [] w3 hv hv2 (by omega) (fun k => by show (default : Bp.Rnd).1.length ≤ _; exact Nat.zero_le _)
    have hcall2 := fun q => sameRounds_any _ _ n1 c1 n2 c2 [] [] (w3.drewN q) (hv.below (Drawn.below ((Drawn.refl w3).drewN q) _)) (hv2.below (Drawn.below ((Drawn.refl w3).drewN q) _)) (by omega) (fun k => by show (default : Bp.Rnd).1.length ≤ _; exact Nat.zero_le _)
    have Hcall := Lib.hid hcall
    have Hcall2 := Lib.hid hcall2
    clear hok hl hcall hcall2
    go_wp2_with fail
    refine Hcall.out.mono ?_
    rintro e w4 ⟨rfl, hd4⟩
    obtain ⟨q4, rfl⟩ := hd4
    go_wp2_with fail
    refine (Hcall2.out q4).mono ?_
    rintro e w5 ⟨rfl, hd5⟩
    go_wp2_with fail
    go_ret
    exact ⟨rfl, (hB3.trans (Drawn.below ((Drawn.refl w3).drewN q4) _)).trans (hd5.below _)⟩
  · have hlv := Bp.ok_lval hok
    have hf := Bp.ok_fits hok
    have hm5 := Bp.lval_n hlv
    have hro := Bp.rounds_ok ps lots hlv
    have hlen0 := fun k hk => Bp.counts_len (ps := ps) hlv (k := k) hk
    have hout := fun k hk => Bp.rounds_out (ps := ps) (lots := lots) hlv (k := k) hk
    have hleast := fun k hk x hx hlx => Bp.rounds_least (ps := ps) (lots := lots) hlv (k := k) hk x hx hlx
    rw [hok, rres_yes rfl] at hv hv2
    rw [hl] at hm5 hlen0 hf
    simp only [hl] at hro hout hleast
    obtain ⟨rs, hrs⟩ : ∃ rs, Bp.rounds ps lots = rs := ⟨_, rfl⟩
    rw [hrs] at hv hv2 hro hlen0
    simp only [hrs] at hout hleast
    have hr1 := hro.1
    have hr2 := hro.2.1
    have hlen := hv.1
    obtain ⟨g, o, _, _, _, _, _, rfl, hg0, _⟩ := hv.at (k := 0) (by omega)
    have hsz : ∀ k, (rs.getD k default).1.length ≤ 1048576 := fun k => by
      by_cases hk : k < rs.length
      · rw [hlen0 k hk]; omega
      · have e0 : rs.getD k default = default := by unfold List.getD; rw [List.getElem?_eq_none (by omega)]; rfl
        rw [e0]; exact Nat.zero_le _
    have hcall := sameRounds_any _ _ n1 c1 n2 c2 rs rs w3 hv hv2 (by omega) hsz
    rw [show decide (rs = rs) = true by simp] at hcall
    have Hcall := Lib.hid hcall
    have Hro := Lib.hid hro.2.2
    have Hlv := Lib.hid hlv
    have Hl := Lib.hid hl
    have Hf := Lib.hid hf
    have Hlen0 := Lib.hid hlen0
    have Hlen := Lib.hid hlen
    have Hout := Lib.hid hout
    have Hleast := Lib.hid hleast
    clear hok hl hcall hlv hf hro hlen0 hout hsz hleast hrs
    go_wp2_with fail
    refine Hcall.out.mono ?_
    rintro e w4 ⟨rfl, hd4⟩
    have hb4 := hd4.below w3.heap.size
    have hs4 := hb4.size
    have hB4 := hB3.trans (hb4.mono (by omega))
    have hps4 := (hps3.below hb4).mono hs4
    have hlo4 := (hlo3.below hb4).mono hs4
    have hv4 := (hv.below hb4).mono hs4
    clear hv hv2 hps3 hlo3
    go_wp2_with (at_make; refine wpList_make_full _ rfl (.tmp 55) (.tmp 55) 30 rfl _ 4 i0 _ 1 Try.underlying30 hi0 hz0 hz1 .i64 .i64 m m m rfl rfl rfl rfl (by rw [hz2]; omega) (by unfold maxLen; omega) (Nat.le_refl _) ?_; intro w5 hown5 hg5)

    have own5 := madeB_own hown5
    have hb5 : Below w4.heap.size w4 w5 := (Below.refl _ _).grown hg5 (Nat.le_refl _) (by simp)
    have hs5 := hb5.size
    have hB5 := hB4.trans (hb5.mono (by omega))
    have hL5 := (own5.row.lt w4.heap.size rfl).2
    obtain ⟨L, hL⟩ : ∃ L, w4.heap.size = L := ⟨_, rfl⟩
    rw [hL] at own5 hL5 hb5 hps4 hlo4 hv4 ⊢
    have hsL : w.heap.size ≤ L := by omega
    have hps5 := hps4.below hb5
    have hlo5 := hlo4.below hb5
    have hv5 := hv4.below hb5
    clear hown5 hg5 hps4 hlo4 hv4 hb5
    go_loopw [10] (fun i wr => ∃ j : Nat, j ≤ n1 ∧ i = .int .i64 j ∧ (j < n1 → OwnB wr L (.slice (some ⟨L, 0, none⟩) m m) m (Bp.leftAfter (List.replicate m false) rs j)) ∧ Below L w5 wr) (fun i _ => n1 - (intOf i).toNat)
    case atStart => exact ⟨0, Nat.zero_le _, rfl, fun _ => own5, Below.refl _ _⟩
    case round =>
      obtain ⟨j, hj, rfl, hownL, hb⟩ := hrel
      have hz := hb.size
      by_cases hlt : j < n1
      · have ownL := hownL hlt
        have hpsj := (hps5.below hb).mono (show L ≤ wr.heap.size by omega)
        have hvj := (hv5.below hb).mono (show L ≤ wr.heap.size by omega)
        have hok := Hro.out j (by rw [Hlen.out]; exact hlt)
        have hcall := iFirstCounts_any _ k cp _ m m ps _ wr hpsj (by omega) hcp ownL.bools (by omega) (Nat.le_refl _)
        rw [Bp.leftAfter_len, List.length_replicate, Hf.out] at hcall
        rw [← hok.counts] at hcall
        have Hcall2 := Lib.hid hcall
        have Hok := Lib.hid hok
        clear hok hcall hownL
        go_wp2_with fail
        refine Hcall2.out.mono ?_
        rintro e w6 ⟨Ac, nc, cc, rfl, hcc, hnc, ownC, hb6⟩
        rw [cres_yes rfl] at ownC
        have hs6 := hb6.size
        have hB6 : Below L w5 w6 := hb.trans (hb6.mono (by omega))
        have ownL6 := ownL.keep hb6
        have hiC := ownC.ints
        obtain ⟨g', o', A3, m3, c3, zs, out, hA', hg, hc3, hmc3, hz3, hco3, hrp⟩ := (hvj.below hb6).at (k := j) hlt
        injection hA' with hA'; injection hA' with e7 e8
        subst e7; subst e8
        have hzl := hz3.1
        have i1 : (0 : Int) ≤ (j : Int) := by omega
        have i2 : (j : Int) < (n1 : Int) := by omega
        have hcall := sameInts_any Ac A3 nc cc m3 c3 _ zs _ _ w6 hiC hz3 (by omega)
        rw [hrp.out, show decide ((zs, out).1 = zs) = true by simp] at hcall
        have Hcall3 := Lib.hid hcall
        have hg6 : g < w6.heap.size := by omega
        clear hcall ownC
        have e0 : ((n1 : Int) - 1) = ((n1 - 1 : Nat) : Int) := by omega
        have e2 : IntKind.i64.wrap ((n1 - 1 : Nat) : Int) = ((n1 - 1 : Nat) : Int) := wrap_small _ (by omega) (by omega)
        by_cases hlast : j + 1 < n1
        · have hor := Hout.out j (by rw [Hlen.out]; exact hlast)
          rw [hrp.out] at hor
          simp only at hor
          obtain ⟨h1, h2, h3⟩ := hor
          obtain ⟨q, rfl⟩ := Int.eq_ofNat_of_zero_le h1
          rw [Int.toNat_natCast] at h3
          have hqm : q < m := by omega
          have d0 : ((q : Int) == -1) = false := by rw [beq_eq_false_iff_ne]; omega
          have d1 : ((j : Int) == ((n1 - 1 : Nat) : Int)) = false := by rw [beq_eq_false_iff_ne]; omega
          have d2 : decide ((0 : Int) ≤ (q : Int)) = true := by simp
          have d3 : decide ((m : Int) ≤ (q : Int)) = false := by simp; omega
          have i3 : (0 : Int) ≤ (q : Int) := by omega
          have i4 : (q : Int) < (m : Int) := by omega
          have H3 := Lib.hid h3
          clear h1 h2 h3
          go_wp2_with fail
          refine Hcall3.out.mono ?_
          rintro e w7 ⟨rfl, hd7⟩
          have hb7 := hd7.below w6.heap.size
          have hs7 := hb7.size
          have ownL7 := ownL6.keep hb7
          have f1 := (hb7.cell (p := ⟨g, o + j * 2 + 1, none⟩) hg6).trans hco3
          have f2 := (hb7.cell (p := ⟨g, o + j * 2, none⟩) hg6).trans hc3
          obtain ⟨cq, fq⟩ := ownB_cell ownL7 q hqm
          rw [H3.out] at cq
          have hset := ownB_set ownL7 q true
          have hB7 : Below L w5 w7 := hB6.trans (hb7.mono (by omega))
          go_wp2_with fail
          go_roundw
          case rel =>
            refine ⟨j + 1, by omega, ?_, fun _ => ?_, ?_⟩
            · go_num
            · have e3 : Bp.leftAfter (List.replicate m false) rs (j + 1) = (Bp.leftAfter (List.replicate m false) rs j).set q true := by rw [Bp.leftAfter, hrp.out, Int.toNat_natCast]
              rw [e3]
              first | exact hset.1 | (simpa using hset.1)
            · first | exact hB7.trans (below_only hset.2 (Nat.le_refl _) (by omega)) | (simpa using hB7.trans (below_only hset.2 (Nat.le_refl _) (by omega)))
          case measure => simp [intOf]; omega
        · have hl2 := (Hok.out.last (by rw [Hlen.out]; omega)).2
          rw [hrp.out] at hl2
          simp only at hl2
          subst hl2
          have d1 : ((j : Int) == ((n1 - 1 : Nat) : Int)) = true := by rw [beq_iff_eq]; omega
          go_wp2_with fail
          refine Hcall3.out.mono ?_
          rintro e w7 ⟨rfl, hd7⟩
          have hb7 := hd7.below w6.heap.size
          have hs7 := hb7.size
          have f1 := (hb7.cell (p := ⟨g, o + j * 2 + 1, none⟩) hg6).trans hco3
          have hB7 : Below L w5 w7 := hB6.trans (hb7.mono (by omega))
          go_wp2_with fail
          go_roundw
          case rel => exact ⟨j + 1, by omega, by go_num, fun hh => absurd hh (by omega), hB7⟩
          case measure => simp [intOf]; omega
      · have d4 : decide ((0 : Int) < (n1 : Int)) = true := by simp; omega
        have d5 : decide ((n1 : Int) ≤ (m : Int)) = true := by simp; omega
        have d6 : decide (n1 ≤ m) = true := decide_eq_true (by omega)
        have d7 : decide (0 < n1) = true := decide_eq_true (by omega)
        go_wp2_with fail
        go_ret
        exact ⟨rfl, hB5.trans (hb.mono (by omega))⟩
end Go.Proofs.Ytlbhbjhglkhbgaa
