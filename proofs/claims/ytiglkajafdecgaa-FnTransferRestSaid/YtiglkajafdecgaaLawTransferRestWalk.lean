/-
  The walk of FnTransferRest.
-/
import Derived.Test.YtiglkajafdecgaaLawTransKit
import Derived.Test.YtiglkajafdecgaaDrawTrans
import Derived.Test.YtiglkajafdecgaaTransRun
import Derived.Test.YtiglkajafdecgaaTransRunS
namespace Go.Proofs.Ytiglkajafdecgaa
set_option linter.unusedVariables false
open Go.RowKit

set_option maxRecDepth 100000 in
set_option maxHeartbeats 8000000 in
theorem lawTransferRest_any (A : Option Addr) (n c : Nat) (w : World) (h : Bytes w w.heap.size A n) (hn : n ≤ 9223372036854775807) (hc : n ≤ c) :
    Calls Try.prog 5 #[.slice A n c] w fun e w' => e = .returned (.bool true) ∧ Below w.heap.size w w' := by
  by_cases hb : 1048576 < n
  · go_enter Try.func5, Try.ntmps5
    go_wp2_with fail
    go_ret
    exact ⟨rfl, Below.refl _ _⟩
  go_enter Try.func5, Try.ntmps5
  go_wp2_with fail
  refine (drawTransferSteps_some A n c _ h hn hc).mono ?_
  rintro e w1 ⟨gp, kp, cp, Al, m, cl, ps, lots, seats, rfl, hcp, hkp, hcl, hml, hse, hps, hlo, hb1⟩
  have hs1 := hb1.size
  go_wp2_with fail
  refine (iTransferSteps_any _ kp cp Al m cl seats ps lots _ hps (by omega) hcp hlo (by omega) hcl).mono ?_
  rintro e w2 ⟨A1, n1, c1, rfl, hc1, hn1, hown, hb2⟩
  have hs2 := hb2.size
  have hps2 := (hps.below hb2).mono hs2
  have hlo2 := (hlo.below hb2).mono hs2
  have hB2 := hb1.trans (hb2.mono hs1)
  go_wp2_with fail
  refine (sTransferSteps_any _ kp cp Al m cl seats ps lots _ hps2 (by omega) hlo2 (by omega) hcl).mono ?_
  rintro e w3 ⟨A2, n2, c2, rfl, hc2, hn2, hown2, hb3⟩
  have hs3 := hb3.size
  have hps3 := (hps2.below hb3).mono hs3
  have hlo3 := (hlo2.below hb3).mono hs3
  have hB3 := hB2.trans (hb3.mono (by omega))
  have hv1 := hown.view
  have hv := (hv1.below hb3).mono hs3
  have hv2 := hown2.view
  have hl := Lib.hid hlo.1
  clear hps hps2 hlo2 hlo hown2 hv1 hown
  cases hok : Bp.tval ps lots seats
  · rw [hok, sres_no rfl] at hv hv2
    have hcall2 := fun q => sameSteps_same _ _ n1 c1 n2 c2 [] _ _ (w3.drewN q) (hv.below (Drawn.below ((Drawn.refl w3).drewN q) _)) (hv2.below (Drawn.below ((Drawn.refl w3).drewN q) _)) (by simp) (by simp) (by omega) (fun k => by show (default : Bp.Stp).frs.length ≤ _; exact Nat.zero_le _)
    have hcall := sameSteps_same _ _ n1 c1 n2 c2 [] _ _ w3 hv hv2 (Nat.le_refl _) (Nat.le_refl _) (by omega) (fun k => by show (default : Bp.Stp).frs.length ≤ _; exact Nat.zero_le _)
    have Hcall := Lib.hid hcall
    have Hcall2 := Lib.hid hcall2
    clear hok hcall hcall2
    go_wp2_with fail
    refine Hcall.out.mono ?_
    rintro e w4 ⟨rfl, hd4⟩
    obtain ⟨q4, rfl⟩ := hd4
    go_wp2_with fail
    refine (Hcall2.out q4).mono ?_
    rintro e w5 ⟨rfl, hd5⟩
    go_wp2_with fail
    go_ret
    exact ⟨rfl, (hB3.trans (Drawn.below ((Drawn.refl w3).drewN q4) _)).trans (hd5.below _)⟩
  · obtain ⟨hlv, hf, ⟨h1, h2, h3⟩, hpsum⟩ := (Bp.tval_iff ps lots seats).1 hok
    have hm5 := Bp.lval_n hlv
    rw [sres_yes hok] at hv hv2
    have hlen := Lib.hid hv.1
    have hend := Bp.run_end hok
    have hpos := Bp.run_pos hok
    have hrun : ∀ k, k < n1 → ∃ p, Bp.RunAt ps lots seats k p := fun k hk => Bp.run_at hok (by rw [hlen.out]; exact hk)
    rw [hlen.out] at hend hpos
    rw [hl.out] at hend hm5 h3
    have hsz : ∀ k, ((Bp.transfer ps lots seats).getD k default).frs.length ≤ 1048576 := fun k => by
      by_cases hk : k < n1
      · obtain ⟨p, hp⟩ := hrun k hk
        unfold Bp.Stp.frs
        rw [Bp.frs_len, hp.law.len, hl.out]
        omega
      · have e0 : (Bp.transfer ps lots seats).getD k default = default := by unfold List.getD; rw [List.getElem?_eq_none (by rw [hlen.out]; omega)]; rfl
        rw [e0]; exact Nat.zero_le _
    have hcall := sameSteps_same _ _ n1 c1 n2 c2 (Bp.transfer ps lots seats) _ _ w3 hv hv2 (Nat.le_refl _) (Nat.le_refl _) (by omega) hsz
    have Hcall := Lib.hid hcall
    have Hrun := Lib.hid hrun
    have Hok := Lib.hid hok
    have Hlv := Lib.hid hlv
    have Hf := Lib.hid hf
    have Hend := Lib.hid hend
    clear hcall hrun hok hlv hf hsz hend
    go_wp2_with fail
    refine Hcall.out.mono ?_
    rintro e w4 ⟨rfl, hd4⟩
    have hb4 := hd4.below w3.heap.size
    have hs4 := hb4.size
    have hB4 := hB3.trans (hb4.mono (by omega))
    have hps4 := (hps3.below hb4).mono hs4
    have hlo4 := (hlo3.below hb4).mono hs4
    have hv4 := (hv.below hb4).mono hs4
    clear hv hv2 hps3 hlo3 hb4 hB3 hd4
    go_wp2_with fail
    go_loopw [10, 11, 12] (fun lv rv i wr => ∃ j : Nat, j ≤ n1 ∧ i = .int .i64 j ∧ (∃ x y : Int, lv = .int .i64 x ∧ rv = .int .i64 y ∧ Hid (x = (m : Int) - j ∧ y = (Bp.Tk ps lots seats j).s) ∧ (0 ≤ x ∧ x ≤ 5) ∧ 0 ≤ y ∧ y ≤ 2) ∧ Below w4.heap.size w4 wr) (fun _ _ i _ => n1 - (intOf i).toNat)
    case atStart => exact ⟨0, Nat.zero_le _, rfl, ⟨m, seats, rfl, rfl, ⟨by omega, by rw [Bp.run_start]; rfl⟩, by omega, by omega, h2⟩, Below.refl _ _⟩
    case round =>
      obtain ⟨j, hj, rfl, ⟨x, y, rfl, rfl, hxy, hx5, hy0, hy2⟩, hbr⟩ := hrel
      obtain ⟨hx, hy⟩ := hxy.out
      have hv4r := hv4.below hbr
      by_cases hlt : j < n1
      · obtain ⟨p, hp⟩ := Hrun.out j hlt
        obtain ⟨g, o, A3, m3, c3, who, kind, rfl, hg, k0, _, _, k1, k2, hwk⟩ := hv4r.at hlt
        have hs := hp.s
        have hs1 := hp.s1
        have hth := hp.there
        have hkd := hp.law.kind
        have hrest := hp.law.rest
        have hout := hp.law.out
        have hkm := hp.km
        rw [hwk.out.2] at hs hkd hrest hout
        rw [hl.out] at hth hkm
        rw [hth, ← hy] at hrest hout
        rw [← hy] at hs hs1
        have i1 : (0 : Int) ≤ (j : Int) := by omega
        have i2 : (j : Int) < (n1 : Int) := by omega
        have hwr1 : IntKind.i64.wrap (x - 1) = x - 1 := IntWalk.i64_in _ (by omega)
        have hwr2 : IntKind.i64.wrap (y - 1) = y - 1 := IntWalk.i64_in _ (by omega)
        rcases hkd with e | e | e
        · subst e
          have hs' : (Bp.Tk ps lots seats (j + 1)).s = y - 1 := by rw [hs, if_neg (by decide)]
          have Hs' := Lib.hid hs'
          have Hx := Lib.hid hx
          clear hp hwk hs hth hrest hout hs' hx hy hv4r
          go_wp2_with fail
          go_roundw
          case rel => exact ⟨j + 1, by omega, by go_num, ⟨x - 1, y - 1, rfl, rfl, ⟨by have := Hx.out; omega, Hs'.out.symm⟩, by have := Hx.out; omega, by omega, by omega⟩, hbr⟩
          case measure => simp [intOf]; omega
        · subst e
          have hs' : (Bp.Tk ps lots seats (j + 1)).s = y := by rw [hs, if_pos rfl]
          have d0 : decide (x ≤ y) = false := decide_eq_false (by have := hout rfl; omega)
          have Hs' := Lib.hid hs'
          have Hx := Lib.hid hx
          clear hp hwk hs hth hrest hout hs' hx hy hv4r
          go_wp2_with fail
          go_roundw
          case rel => exact ⟨j + 1, by omega, by go_num, ⟨x - 1, y, rfl, rfl, ⟨by have := Hx.out; omega, Hs'.out.symm⟩, by have := Hx.out; omega, by omega, by omega⟩, hbr⟩
          case measure => simp [intOf]; omega
        · subst e
          have hs' : (Bp.Tk ps lots seats (j + 1)).s = y - 1 := by rw [hs, if_neg (by decide)]
          have d0 : decide (y < x) = false := decide_eq_false (by have := hrest rfl; omega)
          have Hs' := Lib.hid hs'
          have Hx := Lib.hid hx
          clear hp hwk hs hth hrest hout hs' hx hy hv4r
          go_wp2_with fail
          go_roundw
          case rel => exact ⟨j + 1, by omega, by go_num, ⟨x - 1, y - 1, rfl, rfl, ⟨by have := Hx.out; omega, Hs'.out.symm⟩, by have := Hx.out; omega, by omega, by omega⟩, hbr⟩
          case measure => simp [intOf]; omega
      · have hjn : j = n1 := by omega
        have hy00 : y = 0 := by rw [hy, hjn]; exact Hend.out.2
        subst hy00
        clear hy hx hv4r
        go_wp2_with fail
        go_ret
        exact ⟨rfl, hB4.trans (hbr.mono (by omega))⟩
end Go.Proofs.Ytiglkajafdecgaa
