/-
  The walks of PilesTotal: the program's and the reference's, and who has more than half.
-/
import Derived.Test.YtiglkajafdecgaaPiles
import Derived.Test.YtiglkajafdecgaaFirstPlain
namespace Go.Proofs.Ytiglkajafdecgaa
set_option linter.unusedVariables false
open Go.RowKit

namespace Bp
/-- all ballots, or -1 -/
def ptotal (ps : List Pile) : Int := if psval ps then psum ps else -1
theorem ptotal_yes {ps : List Pile} (h : psval ps = true) : ptotal ps = psum ps := by simp [ptotal, h]
theorem ptotal_no {ps : List Pile} (h : psval ps = false) : ptotal ps = -1 := by simp [ptotal, h]
theorem ptotal_bd (ps : List Pile) : -1 ≤ ptotal ps ∧ ptotal ps ≤ 1188 := by
  cases h : psval ps
  · rw [ptotal_no h]; omega
  · rw [ptotal_yes h]
    have := psum_bd h
    omega
end Bp

set_option maxRecDepth 100000 in
set_option maxHeartbeats 400000 in
theorem iPilesTotal_any (A : Option Addr) (n c : Nat) (ps : List Bp.Pile) (w : World) (h : Piles w w.heap.size A n ps) (hn : n ≤ 1048576) (hnc : n ≤ c) :
    Calls Try.prog 25 #[.slice A n c] w fun e w' => e = .returned (.int .i64 (Bp.ptotal ps)) ∧ Below w.heap.size w w' := by
  have hl := Lib.hid h.1.1
  cases hv : Bp.psval ps
  · have H := Lib.hid (Bp.ptotal_no hv)
    go_enter Try.func25, Try.ntmps25
    go_wp2_with (go_at_call 46; refine (iPilesValid_any A n c ps _ h hn hnc).mono ?_; rintro e w1 ⟨rfl, hb1⟩)
    go_ret
    exact ⟨ret_int H.out.symm, hb1⟩
  · have H := Lib.hid (Bp.ptotal_yes hv)
    have Hv := Lib.hid hv
    have hlen := ((Bp.psval_iff ps).1 hv).1
    rw [hl.out] at hlen
    go_enter Try.func25, Try.ntmps25
    go_wp2_with (go_at_call 46; refine (iPilesValid_any A n c ps _ h hn hnc).mono ?_; rintro e w1 ⟨rfl, hb1⟩)
    clear hv
    go_loopw [3, 11] (fun q i wr => ∃ k : Nat, k ≤ n ∧ i = .int .i64 k ∧ q = .int .i64 (Bp.sumTo ps k) ∧ Below w.heap.size w wr) (fun _ i _ => n - (intOf i).toNat)
    case atStart => exact ⟨0, Nat.zero_le _, rfl, rfl, hb1⟩
    case round =>
      obtain ⟨k, hk, rfl, rfl, hb⟩ := hrel
      have hz := hb.size
      have hsb := Bp.sumTo_bd Hv.out k (by rw [hl.out]; exact hk)
      have Hs := Lib.hid (show Bp.sumTo ps (k + 1) = Bp.sumTo ps k + (ps.getD k default).2 from rfl)
      obtain ⟨x, hx⟩ : ∃ x, Bp.sumTo ps k = x := ⟨_, rfl⟩
      rw [hx] at hsb ⊢
      by_cases hlt : k < n
      · have hr := h.below hb
        obtain ⟨g, o, s, v, rfl, hgl, hc1, hc2, hss, hp⟩ := hr.at hlt
        have hvb := (Bp.pval_iff _).1 (Bp.psval_at ps Hv.out k (by rw [hl.out]; exact hlt))
        rw [hp.out] at hvb
        have hv1 := hvb.2.1
        have hv2 := hvb.2.2
        have hv1' : 1 ≤ v := hv1
        have hv2' : v ≤ 99 := hv2
        clear hvb hv1 hv2
        have Hx := Lib.hid hx
        clear hx
        go_wp2_with fail
        go_roundw
        case rel => exact ⟨k + 1, by omega, by go_num, by rw [Hs.out, hp.out, Hx.out], hb.alloc hz _⟩
        case measure => simp [intOf]; omega
      · have hkn : k = n := by omega
        have Hkn := Lib.hid hkn
        have Hx := Lib.hid hx
        clear hkn hx
        go_wp2_with fail
        go_ret
        exact ⟨ret_int (by rw [H.out, ← Hx.out, Hkn.out]; unfold Bp.psum; rw [hl.out]), hb⟩

set_option maxRecDepth 100000 in
set_option maxHeartbeats 400000 in
theorem l3Total_any (A : Option Addr) (n c : Nat) (ps : List Bp.Pile) (B : Nat) (w : World) (h : Piles w B A n ps) (hn : n ≤ 1048576) (hv : Bp.psval ps = true) :
    Calls Try.prog 53 #[.slice A n c] w fun e w' => e = .returned (.int .i64 (Bp.psum ps)) ∧ w = w' := by
  have hl := Lib.hid h.1.1
  have Hv := Lib.hid hv
  have hlen := ((Bp.psval_iff ps).1 hv).1
  rw [hl.out] at hlen
  clear hv
  go_enter Try.func53, Try.ntmps53
  go_wp2
  go_loop [3, 4] (fun q i => ∃ k : Nat, k ≤ n ∧ i = .int .i64 k ∧ q = .int .i64 (Bp.sumTo ps k)) (fun _ i => n - (intOf i).toNat)
  case atStart => exact ⟨0, Nat.zero_le _, rfl, rfl⟩
  case round =>
    obtain ⟨k, hk, rfl, rfl⟩ := hrel
    have hsb := Bp.sumTo_bd Hv.out k (by rw [hl.out]; exact hk)
    have Hs := Lib.hid (show Bp.sumTo ps (k + 1) = Bp.sumTo ps k + (ps.getD k default).2 from rfl)
    obtain ⟨x, hx⟩ : ∃ x, Bp.sumTo ps k = x := ⟨_, rfl⟩
    rw [hx] at hsb ⊢
    by_cases hlt : k < n
    · obtain ⟨g, o, s, v, rfl, hgl, hc1, hc2, hss, hp⟩ := h.at hlt
      have hvb := (Bp.pval_iff _).1 (Bp.psval_at ps Hv.out k (by rw [hl.out]; exact hlt))
      rw [hp.out] at hvb
      have hv1 := hvb.2.1
      have hv2 := hvb.2.2
      have hv1' : 1 ≤ v := hv1
      have hv2' : v ≤ 99 := hv2
      clear hvb hv1 hv2
      have Hx := Lib.hid hx
      clear hx
      go_wp2_with fail
      go_round
      case rel => exact ⟨k + 1, by omega, by go_num, by rw [Hs.out, hp.out, Hx.out]⟩
      case measure => simp [intOf]; omega
    · have hkn : k = n := by omega
      have Hkn := Lib.hid hkn
      have Hx := Lib.hid hx
      clear hkn hx
      go_wp2_with fail
      go_ret
      exact ⟨ret_int (by rw [← Hx.out, Hkn.out]; unfold Bp.psum; rw [hl.out]), rfl⟩


end Go.Proofs.Ytiglkajafdecgaa
