/-
  The walks of bits.OnesCount at small numbers.
-/
import Derived.Test.YtdcfpobjiofnmaaSmall
namespace Go.Proofs.Ytdcfpobjiofnmaa
set_option linter.unusedVariables false
open Go.RowKit

def Bp.pop (k : Nat) : Nat := k % 2 + k / 2 % 2 + k / 4 % 2 + k / 8 % 2 + k / 16 % 2
set_option maxRecDepth 100000 in
set_option maxHeartbeats 400000 in
theorem ones64_any (k : Nat) (w : World) (hk : k < 32) :
    Calls Try.prog 84 #[.int .u64 k] w fun e w' => e = .returned (.int .i64 (Bp.pop k)) ∧ w = w' := by
  rcases (show k = 0 ∨ k = 1 ∨ k = 2 ∨ k = 3 ∨ k = 4 ∨ k = 5 ∨ k = 6 ∨ k = 7 ∨ k = 8 ∨ k = 9 ∨ k = 10 ∨ k = 11 ∨ k = 12 ∨ k = 13 ∨ k = 14 ∨ k = 15 ∨ k = 16 ∨ k = 17 ∨ k = 18 ∨ k = 19 ∨ k = 20 ∨ k = 21 ∨ k = 22 ∨ k = 23 ∨ k = 24 ∨ k = 25 ∨ k = 26 ∨ k = 27 ∨ k = 28 ∨ k = 29 ∨ k = 30 ∨ k = 31 by omega) with rfl | rfl | rfl | rfl | rfl | rfl | rfl | rfl | rfl | rfl | rfl | rfl | rfl | rfl | rfl | rfl | rfl | rfl | rfl | rfl | rfl | rfl | rfl | rfl | rfl | rfl | rfl | rfl | rfl | rfl | rfl | rfl
  all_goals
    go_enter Try.func84, Try.ntmps84
    go_wp2_with fail
    go_ret
    exact ⟨ret_int (by first | decide +kernel | kernel_rfl), rfl⟩
set_option maxRecDepth 100000 in
set_option maxHeartbeats 400000 in
theorem ones_any (k : Nat) (w : World) (hk : k < 32) :
    Calls Try.prog 58 #[.int .u64 k] w fun e w' => e = .returned (.int .i64 (Bp.pop k)) ∧ w = w' := by
  go_enter Try.func58, Try.ntmps58
  go_wp2_with fail
  refine (ones64_any k w hk).mono ?_
  rintro e w' ⟨rfl, rfl⟩
  go_wp2_with fail
  go_ret
  exact ⟨rfl, rfl⟩
end Go.Proofs.Ytdcfpobjiofnmaa
