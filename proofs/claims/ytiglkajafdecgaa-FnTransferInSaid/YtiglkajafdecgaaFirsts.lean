/-
  The walks of first preferences: BallotFirst, the counts, in the program and in the reference.
-/
import Derived.Test.YtiglkajafdecgaaLots
import Derived.Test.YtiglkajafdecgaaCountRes
import Derived.Test.YtiglkajafdecgaaCountSpec
namespace Go.Proofs.Ytiglkajafdecgaa
set_option linter.unusedVariables false
open Go.RowKit

set_option maxRecDepth 100000 in
set_option maxHeartbeats 400000 in
theorem iBallotFirst_any (A A' : Option Addr) (n c n' c' : Nat) (b : List Int) (left : List Bool) (B B' : Nat) (w : World) (h : Ints w B A n b) (h' : Bools w B' A' n' left) (hn : n ≤ 1048576) (hnc : n ≤ c) (hv : Bp.bval b n' = true) :
    Calls Try.prog 84 #[.slice A n c, .slice A' n' c'] w fun e w' => e = .returned (.int .i64 (Bp.bfirst b left)) ∧ w = w' := by
  have hl := Lib.hid h.1
  have Hv := Lib.hid hv
  go_enter Try.func84, Try.ntmps84
  go_wp2_with (go_at_call 49; refine (iBallotValid_any A n c n' b B _ h (by omega) hnc).mono ?_; rintro e w' ⟨rfl, rfl⟩)
  clear hv
  go_loop [14] (fun i => ∃ k : Nat, k ≤ n ∧ i = .int .i64 k ∧ Hid (∀ j, j < k → left.getD (b.getD j 0).toNat false = true)) (fun i => n - (intOf i).toNat)
  case atStart => exact ⟨0, Nat.zero_le _, rfl, fun j hj => absurd hj (by omega)⟩
  case round =>
    obtain ⟨k, hk, rfl, hq⟩ := hrel
    by_cases hlt : k < n
    · obtain ⟨g, o, z, rfl, _, hc, hz⟩ := h.at hlt
      have hfit := Bp.bval_fit _ _ Hv.out k (by rw [hl.out]; exact hlt)
      have hz0 := hfit.1
      have hz1 := hfit.2.1
      rw [hz.out] at hz0 hz1
      clear hfit
      obtain ⟨zn, rfl⟩ := Int.eq_ofNat_of_zero_le hz0
      obtain ⟨g2, o2, y, rfl, _, hcy, hy⟩ := h'.at (show zn < n' by omega)
      cases y
      · go_wp2_with fail
        go_ret
        exact ⟨ret_int (by
          rw [Bp.bfirst_found b left k (by rw [hl.out]; exact hlt) (by rw [hz.out, Int.toNat_natCast, hy.out]) hq.out, hz.out]), rfl⟩
      · go_wp2_with fail
        go_round
        case rel => exact ⟨k + 1, by omega, by go_num, fun j hj => by
          by_cases hj' : j = k
          · subst hj'; rw [hz.out, Int.toNat_natCast, hy.out]
          · exact hq.out j (by omega)⟩
        case measure => simp [intOf]; omega
    · go_wp2_with fail
      go_ret
      exact ⟨ret_int (by rw [Bp.bfirst_none b left (fun j hj => hq.out j (by rw [hl.out] at hj; omega))]), rfl⟩

set_option maxRecDepth 100000 in
set_option maxHeartbeats 400000 in
theorem l1First_any (A A' : Option Addr) (n c n' c' : Nat) (b : List Int) (left : List Bool) (B B' : Nat) (w : World) (h : Ints w B A n b) (h' : Bools w B' A' n' left) (hn : n ≤ 1048576) (hv : Bp.bval b n' = true) :
    Calls Try.prog 76 #[.slice A n c, .slice A' n' c'] w fun e w' => e = .returned (.int .i64 (Bp.bfirst b left)) ∧ w = w' := by
  have hl := Lib.hid h.1
  have Hv := Lib.hid hv
  clear hv
  go_enter Try.func76, Try.ntmps76
  go_wp2
  go_loop [5] (fun i => ∃ k : Nat, k ≤ n ∧ i = .int .i64 k ∧ Hid (∀ j, j < k → left.getD (b.getD j 0).toNat false = true)) (fun i => n - (intOf i).toNat)
  case atStart => exact ⟨0, Nat.zero_le _, rfl, fun j hj => absurd hj (by omega)⟩
  case round =>
    obtain ⟨k, hk, rfl, hq⟩ := hrel
    by_cases hlt : k < n
    · obtain ⟨g, o, z, rfl, _, hc, hz⟩ := h.at hlt
      have hfit := Bp.bval_fit _ _ Hv.out k (by rw [hl.out]; exact hlt)
      have hz0 := hfit.1
      have hz1 := hfit.2.1
      rw [hz.out] at hz0 hz1
      clear hfit
      obtain ⟨zn, rfl⟩ := Int.eq_ofNat_of_zero_le hz0
      obtain ⟨g2, o2, y, rfl, _, hcy, hy⟩ := h'.at (show zn < n' by omega)
      cases y
      · go_wp2_with fail
        go_ret
        exact ⟨ret_int (by
          rw [Bp.bfirst_found b left k (by rw [hl.out]; exact hlt) (by rw [hz.out, Int.toNat_natCast, hy.out]) hq.out, hz.out]), rfl⟩
      · go_wp2_with fail
        go_round
        case rel => exact ⟨k + 1, by omega, by go_num, fun j hj => by
          by_cases hj' : j = k
          · subst hj'; rw [hz.out, Int.toNat_natCast, hy.out]
          · exact hq.out j (by omega)⟩
        case measure => simp [intOf]; omega
    · go_wp2_with fail
      go_ret
      exact ⟨ret_int (by rw [Bp.bfirst_none b left (fun j hj => hq.out j (by rw [hl.out] at hj; omega))]), rfl⟩


end Go.Proofs.Ytiglkajafdecgaa
