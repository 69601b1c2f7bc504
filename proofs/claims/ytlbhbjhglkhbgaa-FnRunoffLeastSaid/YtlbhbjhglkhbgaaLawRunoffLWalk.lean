/-
  The walk of FnRunoffLeast.
-/
import Derived.Test.YtlbhbjhglkhbgaaLawRunoffWalk
namespace Go.Proofs.Ytlbhbjhglkhbgaa
set_option linter.unusedVariables false
open Go.RowKit

set_option maxRecDepth 100000 in
set_option maxHeartbeats 4000000 in
theorem lawRunoffLeast_any (A : Option Addr) (n c : Nat) (w : World) (h : Bytes w w.heap.size A n) (hn : n ≤ 9223372036854775807) (hc : n ≤ c) :
    Calls Try.prog 10 #[.slice A n c] w fun e w' => e = .returned (.bool true) ∧ Below w.heap.size w w' := by
  by_cases hb : 1048576 < n
  · go_enter Try.func10, Try.ntmps10
    go_wp2_with fail
    go_ret
    exact ⟨rfl, Below.refl _ _⟩
  obtain ⟨i0, hi0, hz0, hz1, hz2⟩ := info_parts bool_info
  go_enter Try.func10, Try.ntmps10
  go_wp2_with fail
  refine (drawRunoffRounds_some A n c _ h hn hc).mono ?_
  rintro e w1 ⟨gp, k, cp, Al, m, cl, ps, lots, rfl, hcp, hkp, hcl, hml, hps, hlo, hb1⟩
  have hs1 := hb1.size
  go_wp2_with fail
  refine (iRunoffRounds_any _ k cp Al m cl ps lots _ hps (by omega) hcp hlo (by omega) hcl).mono ?_
  rintro e w2 ⟨A1, n1, c1, rfl, hc1, hn1, hown, hb2⟩
  have hs2 := hb2.size
  have hps2 := (hps.below hb2).mono hs2
  have hlo2 := (hlo.below hb2).mono hs2
  have hB2 := hb1.trans (hb2.mono hs1)
  go_wp2_with fail
  refine (sRunoffRounds_any _ k cp Al m cl ps lots _ hps2 (by omega) hlo2 (by omega) hcl).mono ?_
  rintro e w3 ⟨A2, n2, c2, rfl, hc2, hn2, hown2, hb3⟩
  have hs3 := hb3.size
  have hps3 := (hps2.below hb3).mono hs3
  have hlo3 := (hlo2.below hb3).mono hs3
  have hB3 := hB2.trans (hb3.mono (by omega))
  have hv1 := hown.view
  have hv := (hv1.below hb3).mono hs3
  have hv2 := hown2.view
  have hl := hlo.1
  clear hps hps2 hlo2 hlo hown2 hv1 hown
  cases hok : Bp.ok ps lots
  · rw [hok, rres_no rfl] at hv hv2
    have hcall := sameRounds_any _ _ n1 c1 n2 c2 [] [] w3 hv hv2 (by omega) (fun k => by show (default : Bp.Rnd).1.length ≤ _; exact Nat.zero_le _)
    have hcall2 := fun q => sameRounds_any _ _ n1 c1 n2 c2 [] [] (w3.drewN q) (hv.below (Drawn.below ((Drawn.refl w3).drewN q) _)) (hv2.below (Drawn.below ((Drawn.refl w3).drewN q) _)) (by omega) (fun k => by show (default : Bp.Rnd).1.length ≤ _; exact Nat.zero_le _)
    have Hcall := Lib.hid hcall
    have Hcall2 := Lib.hid hcall2
    clear hok hl hcall hcall2
    go_wp2_with fail
    refine Hcall.out.mono ?_
    rintro e w4 ⟨rfl, hd4⟩
    obtain ⟨q4, rfl⟩ := hd4
    go_wp2_with fail
    refine (Hcall2.out q4).mono ?_
    rintro e w5 ⟨rfl, hd5⟩
    go_wp2_with fail
    go_ret
    exact ⟨rfl, (hB3.trans (Drawn.below ((Drawn.refl w3).drewN q4) _)).trans (hd5.below _)⟩
  · have hlv := Bp.ok_lval hok
    have hf := Bp.ok_fits hok
    have hm5 := Bp.lval_n hlv
    have hro := Bp.rounds_ok ps lots hlv
    have hlen0 := fun k hk => Bp.counts_len (ps := ps) hlv (k := k) hk
    have hout := fun k hk => Bp.rounds_out (ps := ps) (lots := lots) hlv (k := k) hk
    have hleast := fun k hk x hx hlx => Bp.rounds_least (ps := ps) (lots := lots) hlv (k := k) hk x hx hlx
    rw [hok, rres_yes rfl] at hv hv2
    rw [hl] at hm5 hlen0 hf
    simp only [hl] at hro hout hleast
    obtain ⟨rs, hrs⟩ : ∃ rs, Bp.rounds ps lots = rs := ⟨_, rfl⟩
    rw [hrs] at hv hv2 hro hlen0
    simp only [hrs] at hout hleast
    have hr1 := hro.1
    have hr2 := hro.2.1
    have hlen := hv.1
    obtain ⟨g, o, _, _, _, _, _, rfl, hg0, _⟩ := hv.at (k := 0) (by omega)
    have hsz : ∀ k, (rs.getD k default).1.length ≤ 1048576 := fun k => by
      by_cases hk : k < rs.length
      · rw [hlen0 k hk]; omega
      · have e0 : rs.getD k default = default := by unfold List.getD; rw [List.getElem?_eq_none (by omega)]; rfl
        rw [e0]; exact Nat.zero_le _
    have hcall := sameRounds_any _ _ n1 c1 n2 c2 rs rs w3 hv hv2 (by omega) hsz
    rw [show decide (rs = rs) = true by simp] at hcall
    have Hcall := Lib.hid hcall
    have Hro := Lib.hid hro.2.2
    have Hlv := Lib.hid hlv
    have Hl := Lib.hid hl
    have Hf := Lib.hid hf
    have Hlen0 := Lib.hid hlen0
    have Hlen := Lib.hid hlen
    have Hout := Lib.hid hout
    have Hleast := Lib.hid hleast
    clear hok hl hcall hlv hf hro hlen0 hout hsz hleast hrs
    go_wp2_with fail
    refine Hcall.out.mono ?_
    rintro e w4 ⟨rfl, hd4⟩
    have hb4 := hd4.below w3.heap.size
    have hs4 := hb4.size
    have hB4 := hB3.trans (hb4.mono (by omega))
    have hps4 := (hps3.below hb4).mono hs4
    have hlo4 := (hlo3.below hb4).mono hs4
    have hv4 := (hv.below hb4).mono hs4
    clear hv hv2 hps3 hlo3
    go_wp2_with (at_make; refine wpList_make_full _ rfl (.tmp 55) (.tmp 55) 30 rfl _ 4 i0 _ 1 Try.underlying30 hi0 hz0 hz1 .i64 .i64 m m m rfl rfl rfl rfl (by rw [hz2]; omega) (by unfold maxLen; omega) (Nat.le_refl _) ?_; intro w5 hown5 hg5)

    have own5 := madeB_own hown5
    have hb5 : Below w4.heap.size w4 w5 := (Below.refl _ _).grown hg5 (Nat.le_refl _) (by simp)
    have hs5 := hb5.size
    have hB5 := hB4.trans (hb5.mono (by omega))
    have hL5 := (own5.row.lt w4.heap.size rfl).2
    obtain ⟨L, hL⟩ : ∃ L, w4.heap.size = L := ⟨_, rfl⟩
    rw [hL] at own5 hL5 hb5 hps4 hlo4 hv4 ⊢
    have hsL : w.heap.size ≤ L := by omega
    have hps5 := hps4.below hb5
    have hlo5 := hlo4.below hb5
    have hv5 := hv4.below hb5
    clear hown5 hg5 hps4 hlo4 hv4 hb5
    go_loopw [10] (fun i wr => ∃ j : Nat, j < n1 ∧ i = .int .i64 j ∧ OwnB wr L (.slice (some ⟨L, 0, none⟩) m m) m (Bp.leftAfter (List.replicate m false) rs j) ∧ Below L w5 wr) (fun i _ => n1 - (intOf i).toNat)
    case atStart => exact ⟨0, by omega, rfl, own5, Below.refl _ _⟩
    case round =>
      obtain ⟨j, hlt, rfl, ownL, hb⟩ := hrel
      obtain ⟨wo, rfl⟩ : ∃ wo : World, wo = wr := ⟨_, rfl⟩
      have hz := hb.size
      have hvj := hv5.below hb
      have hok := Hro.out j (by rw [Hlen.out]; exact hlt)
      have Hok := Lib.hid hok
      have hcl0 := Hlen0.out j (by rw [Hlen.out]; exact hlt)
      obtain ⟨g', o', A3, m3, c3, zs, out, hA', hg, hc3, hmc3, hz3, hco3, hrp⟩ := hvj.at (k := j) hlt
      injection hA' with hA'; injection hA' with e7 e8
      subst e7; subst e8
      have hzl := hz3.1
      have hm3 : m = m3 := by rw [hrp.out] at hcl0; simp only at hcl0; omega
      subst hm3
      have i1 : (0 : Int) ≤ (j : Int) := by omega
      have i2 : (j : Int) < (n1 : Int) := by omega
      clear hok hcl0
      by_cases hlast : j + 1 < n1
      · have hor := Hout.out j (by rw [Hlen.out]; exact hlast)
        have hls := fun x hx hlx => Hleast.out j (by rw [Hlen.out]; exact hlast) x hx hlx
        rw [hrp.out] at hor
        simp only [hrp.out] at hor hls
        obtain ⟨h1, h2, h3⟩ := hor
        obtain ⟨q, rfl⟩ := Int.eq_ofNat_of_zero_le h1
        simp only [Int.toNat_natCast] at h3 hls
        have hqm : q < m := by omega
        have d2 : decide ((0 : Int) ≤ (q : Int)) = true := by simp
        have d3 : decide ((q : Int) < (m : Int)) = true := by simp; omega
        have i3 : (0 : Int) ≤ (q : Int) := by omega
        have i4 : (q : Int) < (m : Int) := by omega
        obtain ⟨gz, oz, y, rfl, hgz, hcy, hy⟩ := hz3.at (k := q) hqm
        have Hls := Lib.hid hls
        have H3 := Lib.hid h3
        clear h1 h2 h3 hls
        go_wp2_with fail
        go_loopw [12] (fun i wi => ∃ x : Nat, x ≤ m ∧ i = .int .i64 x ∧ Drawn wo wi) (fun i _ => m - (intOf i).toNat)
        case atStart => exact ⟨0, Nat.zero_le _, rfl, Drawn.refl _⟩
        case round =>
          obtain ⟨x, hx, rfl, hd⟩ := hrel
          have hbx := hd.below wo.heap.size
          have hbxs := hbx.size
          have hgo : g < wo.heap.size := by omega
          have hgzo : gz < wo.heap.size := by omega
          have f1 := (hbx.cell (p := ⟨g, o + j * 2 + 1, none⟩) hgo).trans hco3
          have f2 := (hbx.cell (p := ⟨g, o + j * 2, none⟩) hgo).trans hc3
          have ownLx := ownL.keep hbx
          by_cases hxm : x < m
          · have i5 : (0 : Int) ≤ (x : Int) := by omega
            have i6 : (x : Int) < (m : Int) := by omega
            obtain ⟨cx, _⟩ := ownB_cell ownLx x hxm
            have hzx := (hz3.mono (show L ≤ wo.heap.size by omega)).below hbx
            obtain ⟨g7, o7, z, hA7, _, hcz, hzz⟩ := hzx.at (k := x) hxm
            injection hA7 with hA7; injection hA7 with e5 e6
            subst e5; subst e6
            have fy := (hbx.cell (p := ⟨gz, oz + q, none⟩) hgzo).trans hcy
            have hlox := (hlo5.below (hb.trans (hbx.mono (show L ≤ wo.heap.size by omega))))
            cases hlf : (Bp.leftAfter (List.replicate m false) rs j).getD x false
            · have hlsx := Hls.out x hxm hlf
              rw [hy.out, hzz.out] at hlsx
              have hle := hlsx.1
              have Hbef := Lib.hid hlsx.2
              clear hlsx
              have dlt : decide (z < y) = false := decide_eq_false (by omega)
              rw [hlf] at cx
              by_cases hzy : z = y
              · have d8 : (z == y) = true := by simpa using hzy
                have Hzy := Lib.hid hzy
                clear hzy
                go_wp2_with fail
                go_quiet ((go_at_call 18; exact quiet_left (before_val _ m cl lots _ _ false (Hbef.out Hzy.out) _ _ (hlox.drewN _) (by omega) (by omega))))
                go_wp2_with fail
                go_roundw
                case rel => exact ⟨x + 1, by omega, by go_num, hd.drewN _⟩
                case measure => simp [intOf]; omega
              · have d8 : (z == y) = false := by simpa using hzy
                have Hzy := Lib.hid hzy
                clear hzy
                go_wp2_with fail
                go_quiet (fail)
                go_wp2_with fail
                go_roundw
                case rel => exact ⟨x + 1, by omega, by go_num, hd.drewN _⟩
                case measure => simp [intOf]; omega
            · rw [hlf] at cx
              go_wp2_with fail
              go_quiet (fail)
              go_wp2_with fail
              go_roundw
              case rel => exact ⟨x + 1, by omega, by go_num, hd.drewN _⟩
              case measure => simp [intOf]; omega
          · obtain ⟨cq, fq⟩ := ownB_cell ownLx q hqm
            have hset := ownB_set ownLx q true
            have hB7 : Below L w5 wr := hb.trans (hbx.mono (by omega))
            go_wp2_with fail
            go_roundw
            case rel =>
              refine ⟨j + 1, by omega, ?_, ?_, ?_⟩
              · go_num
              · have e3 : Bp.leftAfter (List.replicate m false) rs (j + 1) = (Bp.leftAfter (List.replicate m false) rs j).set q true := by rw [Bp.leftAfter, hrp.out, Int.toNat_natCast]
                rw [e3]
                first | exact hset.1 | (simpa using hset.1)
              · first | exact hB7.trans (below_only hset.2 (Nat.le_refl _) (by omega)) | (simpa using hB7.trans (below_only hset.2 (Nat.le_refl _) (by omega)))
            case measure => simp [intOf]; omega
      · have hl2 := (Hok.out.last (by rw [Hlen.out]; omega)).2
        rw [hrp.out] at hl2
        simp only at hl2
        subst hl2
        go_wp2_with fail
        go_ret
        exact ⟨rfl, hB5.trans (hb.mono (by omega))⟩
end Go.Proofs.Ytlbhbjhglkhbgaa
