/-
  The walks of the small functions of a runoff: whether a round is the last one, who leaves.
-/
import Derived.Test.YtiglkajafdecgaaFirsts
import Derived.Test.YtiglkajafdecgaaRunoffPlain
namespace Go.Proofs.Ytiglkajafdecgaa
set_option linter.unusedVariables false
open Go.RowKit



set_option maxRecDepth 100000 in
set_option maxHeartbeats 400000 in
theorem l12Many_any (A : Option Addr) (n c : Nat) (left : List Bool) (B : Nat) (w : World) (h : Bools w B A n left) (hn : n ≤ 1048576) :
    Calls Try.prog 58 #[.slice A n c] w fun e w' => e = .returned (.int .i64 (Bp.there left)) ∧ w = w' := by
  have hl := Lib.hid h.1
  go_enter Try.func58, Try.ntmps58
  go_wp2
  go_loop [3, 4] (fun t i => ∃ k : Nat, k ≤ n ∧ i = .int .i64 k ∧ t = .int .i64 (Bp.thereTo left k)) (fun _ i => n - (intOf i).toNat)
  case atStart => exact ⟨0, Nat.zero_le _, rfl, rfl⟩
  case round =>
    obtain ⟨k, hk, rfl, rfl⟩ := hrel
    have htb := Bp.thereTo_bd left k
    have Ht := Lib.hid (show Bp.thereTo left (k + 1) = if left.getD k false then Bp.thereTo left k else Bp.thereTo left k + 1 from rfl)
    obtain ⟨y, hy⟩ : ∃ y, Bp.thereTo left k = y := ⟨_, rfl⟩
    rw [hy] at htb ⊢
    by_cases hlt : k < n
    · obtain ⟨g', o', b, rfl, _, hc', hb⟩ := h.at hlt
      have Hy := Lib.hid hy
      clear hy
      cases b
      · go_wp2_with fail
        go_round
        case rel => exact ⟨k + 1, by omega, by go_num, by rw [Ht.out, Hy.out, hb.out]; rfl⟩
        case measure => simp [intOf]; omega
      · go_wp2_with fail
        go_round
        case rel => exact ⟨k + 1, by omega, by go_num, by rw [Ht.out, Hy.out, hb.out]; rfl⟩
        case measure => simp [intOf]; omega
    · have hkn : k = n := by omega
      have Hkn := Lib.hid hkn
      have Hy := Lib.hid hy
      clear hkn hy
      go_wp2_with fail
      go_ret
      exact ⟨ret_int (by unfold Bp.there; rw [hl.out, ← Hkn.out, Hy.out]), rfl⟩

end Go.Proofs.Ytiglkajafdecgaa
