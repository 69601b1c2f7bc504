/-
  The walk of the laws' most.
-/
import Derived.Test.YtgcihnhljeahjaaPlurPlain
import Derived.Test.YtgcihnhljeahjaaSmall
namespace Go.Proofs.Ytgcihnhljeahjaa
set_option linter.unusedVariables false
open Go.RowKit

set_option maxRecDepth 100000 in
set_option maxHeartbeats 400000 in
theorem most_any (A : Option Addr) (n c : Nat) (zs : List Int) (B : Nat) (w : World) (h : Ints w B A n zs) (hn : n ≤ 1048576) :
    Calls Try.prog 29 #[.slice A n c] w fun e w' => e = .returned (.int .i64 (Bp.topN zs n)) ∧ w = w' := by
  go_enter Try.func29, Try.ntmps29
  go_wp2
  go_loop [3, 4] (fun t i => ∃ k : Nat, k ≤ n ∧ i = .int .i64 k ∧ t = .int .i64 (Bp.topN zs k)) (fun _ i => n - (intOf i).toNat)
  case atStart => exact ⟨0, Nat.zero_le _, rfl, rfl⟩
  case round =>
    obtain ⟨k, hk, rfl, rfl⟩ := hrel
    have Ht := Lib.hid (show Bp.topN zs (k + 1) = max (Bp.topN zs k) (zs.getD k 0) from rfl)
    obtain ⟨y, hy⟩ : ∃ y, Bp.topN zs k = y := ⟨_, rfl⟩
    rw [hy]
    by_cases hlt : k < n
    · obtain ⟨g', o', b, rfl, _, hc', hb⟩ := h.at hlt
      have Hy := Lib.hid hy
      clear hy
      go_wp2_with fail
      all_goals
        go_round
        case rel => exact ⟨k + 1, by omega, by go_num, by rw [Ht.out, Hy.out, hb.out]; first | rfl | (congr 1; omega)⟩
        case measure => simp [intOf]; omega
    · have hkn : k = n := by omega
      subst hkn
      have Hy := Lib.hid hy
      clear hy
      go_wp2_with fail
      go_ret
      exact ⟨ret_int Hy.out.symm, rfl⟩
theorem most_val (A : Option Addr) (n c : Nat) (zs : List Int) (v : Int) (hv : Bp.topN zs n = v) (B : Nat) (w : World) (h : Ints w B A n zs) (hn : n ≤ 1048576) :
    Calls Try.prog 29 #[.slice A n c] w fun e w' => e = .returned (.int .i64 v) ∧ w = w' := by
  subst hv; exact most_any A n c zs B w h hn
end Go.Proofs.Ytgcihnhljeahjaa
