/-
  The walk of FnPairBest.
-/
import Derived.Test.YtbjkdplimdlfpaaLawBestWalk
import Derived.Test.YtbjkdplimdlfpaaTopZ
namespace Go.Proofs.Ytbjkdplimdlfpaa
set_option linter.unusedVariables false
open Go.RowKit

set_option maxRecDepth 100000 in
set_option maxHeartbeats 4000000 in
theorem lawPairBest_any (A : Option Addr) (n c : Nat) (w : World) (h : Bytes w w.heap.size A n) (hn : n ≤ 9223372036854775807) (hc : n ≤ c) :
    Calls Try.prog 12 #[.slice A n c] w fun e w' => e = .returned (.bool true) ∧ Below w.heap.size w w' := by
  by_cases hb : 1048576 < n
  · go_enter Try.func12, Try.ntmps12
    go_wp2_with fail
    go_ret
    exact ⟨rfl, Below.refl _ _⟩
  go_enter Try.func12, Try.ntmps12
  go_wp2_with fail
  refine (drawPairBest_some A n c _ h hn hc).mono ?_
  rintro e w1 ⟨gp, k, cp, mi, ps, rfl, hcp, hkp, hm0, hm6, hps, hb1⟩
  have hs1 := hb1.size
  go_wp2_with fail
  refine (iPairBest_any _ k cp mi ps _ hps (by omega) hcp).mono ?_
  rintro e w2 ⟨A1, n1, c1, rfl, hc1, hn1, hown, hb2⟩
  have hs2 := hb2.size
  have hps2 := (hps.below hb2).mono hs2
  have hB2 := hb1.trans (hb2.mono hs1)
  go_wp2_with fail
  refine (sPairBest_any _ k cp mi ps _ hps2 (by omega)).mono ?_
  rintro e w3 ⟨A2, n2, c2, rfl, hc2, hn2, hown2, hb3⟩
  have hs3 := hb3.size
  have hps3 := (hps2.below hb3).mono hs3
  have hB3 := hB2.trans (hb3.mono (by omega))
  have hv1 := hown.ints
  have hv := (hv1.below hb3).mono hs3
  have hv2 := hown2.ints
  have hnn : n2 = n1 := by rw [← hv.1, hv2.1]
  subst hnn
  clear hps hps2 hown2 hv1 hown
  have hcall := fun q => sameInts_any _ _ n2 c1 n2 c2 _ _ _ _ (w3.drewN q) (hv.below (below_drewN (Below.refl _ _) q)) (hv2.below (below_drewN (Below.refl _ _) q)) (by omega)
  simp only [decide_true] at hcall
  have Hcall := Lib.hid hcall
  clear hcall
  by_cases h0 : n2 ≤ 0
  · have hd0 : ((n2 : Int) == 0) = true := by simp; omega
    go_wp2_with fail
    refine (Hcall.out 0).mono ?_
    rintro e w4 ⟨rfl, hd4⟩
    obtain ⟨q4, rfl⟩ := hd4
    go_wp2_with fail
    refine (Hcall.out q4).mono ?_
    rintro e w5 ⟨rfl, hd5⟩
    go_wp2_with fail
    go_ret
    exact ⟨rfl, (hB3.trans (Drawn.below ((Drawn.refl w3).drewN q4) _)).trans (hd5.below _)⟩
  · have hd0 : ((n2 : Int) == 0) = false := by simp; omega
    cases hok : Bp.fits ps mi
    · rw [hok, cres_no rfl] at hv
      have := hv.1
      simp at this
      omega
    have hmm := Bp.fits_n hok
    have hpv := Bp.fits_val hok
    obtain ⟨m, rfl⟩ := Int.eq_ofNat_of_zero_le hm0
    have m1 : 1 ≤ m := by omega
    have m5 : m ≤ 5 := by omega
    rw [hok, cres_yes rfl, Int.toNat_natCast] at hv
    have Hok := Lib.hid hok
    have Hpv := Lib.hid hpv
    clear hok hpv
    go_wp2_with fail
    refine (Hcall.out 0).mono ?_
    rintro e w4 ⟨rfl, hd4⟩
    have hb4 : Below w3.heap.size w3 w4 := hd4.below w3.heap.size
    have hs4 := hb4.size
    have hB4 := hB3.trans (hb4.mono (by omega))
    have hps4 := (hps3.below hb4).mono hs4
    have hv4 := (hv.below hb4).mono hs4
    clear hv hv2 hps3
    have hct := iPairTop_any _ k cp (m : Int) ps _ hps4 (by omega) hcp
    rw [Hok.out, Int.toNat_natCast] at hct
    have Hct := Lib.hid hct
    clear hct Hcall
    go_wp2_with fail
    refine Hct.out.mono ?_
    rintro e w5 ⟨A5, n5, c5, rfl, hc5, hn5, own5, hb5⟩
    have hs5 := hb5.size
    have hB5 := hB4.trans (hb5.mono (by omega))
    have hv5 := (hv4.below hb5).mono hs5
    rw [cres_yes rfl] at own5
    have hi5 := own5.ints
    obtain ⟨g0, o0, z0, rfl, _, _, _⟩ := hv5.at (k := 0) (by omega)
    have hl5 := Lib.hid hv5.1
    clear hv4 own5 hb5
    go_wp2_with fail
    go_loopw [8] (fun i wr => ∃ x : Nat, x ≤ n2 ∧ i = .int .i64 x ∧ Drawn w5 wr) (fun i _ => n2 - (intOf i).toNat)
    case atStart => exact ⟨0, Nat.zero_le _, rfl, Drawn.refl _⟩
    case round =>
      obtain ⟨x, hx, rfl, hd⟩ := hrel
      by_cases hxl : x < n2
      · have i1 : (0 : Int) ≤ (x : Int) := by omega
        have i2 : (x : Int) < (n2 : Int) := by omega
        obtain ⟨g1, o1, z, hA1, _, hcz, hzz⟩ := (hv5.below (hd.below _)).at hxl
        injection hA1 with hA1; injection hA1 with e1 e2
        subst e1; subst e2
        have hmem : z ∈ Bp.bests ps m := by
          rw [← hzz.out]
          exact Bp.getD_mem _ x (by rw [hl5.out]; exact hxl)
        obtain ⟨j, hj, ej, hbj⟩ := (Bp.picks_mem (Bp.isBest (Bp.pathF ps m) m) z m).1 hmem
        have hhas : Bp.has (Bp.tops ps m) z = true := by
          unfold Bp.has
          exact decide_eq_true ((Bp.picks_mem (Bp.isTop ps m) z m).2 ⟨j, hj, ej, Bp.best_top' ps Hpv.out hj hbj⟩)
        subst ej
        have Hj := Lib.hid hj
        clear hj
        have hcall := hasInt_val A5 n5 c5 (j : Int) _ true hhas _ wr (hi5.below (hd.below _)) (by omega)
        have Hcall3 := Lib.hid hcall
        clear hcall hmem hhas hbj
        go_wp2_with (go_at_call 26; refine Hcall3.out.mono ?_; rintro e w' ⟨rfl, rfl⟩)
        go_roundw
        case rel => exact ⟨x + 1, by omega, by go_num, hd⟩
        case measure => simp [intOf]; omega
      · have d0 : decide ((0 : Int) < (n2 : Int)) = true := by simp; omega
        have d1 : decide (0 < n2) = true := decide_eq_true (by omega)
        go_wp2_with fail
        go_ret
        exact ⟨rfl, hB5.trans (hd.below _)⟩
end Go.Proofs.Ytbjkdplimdlfpaa
