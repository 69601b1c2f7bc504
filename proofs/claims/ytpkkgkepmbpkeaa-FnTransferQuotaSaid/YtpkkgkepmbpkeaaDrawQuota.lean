/-
  The draw of the arguments of TransferQuota; and the law: more than a part of all ballots is enough.
-/
import Derived.Test.YtpkkgkepmbpkeaaDraw
import Derived.Test.YtpkkgkepmbpkeaaQuota
namespace Go.Proofs.Ytpkkgkepmbpkeaa
set_option linter.unusedVariables false
open Go.RowKit

/-- two drawn numbers -/
def Two (w : World) (e : Ending) (w' : World) : Prop := ∃ a b : Int, e = .returned (.tuple #[.int .i64 a, .int .i64 b]) ∧ Below w.heap.size w w'
set_option maxRecDepth 100000 in
set_option maxHeartbeats 400000 in
theorem drawQuota_any (A : Option Addr) (n c : Nat) (w : World) (h : Bytes w w.heap.size A n) (hn : n ≤ 9223372036854775807) (hc : n ≤ c) :
    Calls Try.prog 10 #[.slice A n c] w (Two w) := by
  go_enter Try.func10, Try.ntmps10
  go_wp2_with fail
  refine (l6Open_any A n c w h hn hc).mono ?_
  rintro e w1 ⟨g, rfl, hg, hg', hr, hb⟩
  go_wp2_with fail
  refine (pick_any g 0 63 _ hr (by omega)).mono ?_
  rintro e w2 ⟨k, rfl, hk0, hk1, -, hg2, hr2⟩
  have hk := hk1 (by omega)
  go_wp2_with fail
  refine (pick_any g _ 4 _ hr2 (by omega)).mono ?_
  rintro e w3 ⟨k', rfl, hk0', hk1', -, hg3, hr3⟩
  go_wp2_with fail
  go_ret2
  exact ⟨k - 1, k', rfl, hb.trans ((below_only hg2 hg hb.size).trans (below_only hg3 hg (Nat.le_trans hb.size hg2.size)))⟩

/-- the law of the quota -/
theorem quota_law (t s : Int) (h : 0 ≤ Fp.quota t s) : (t < Fp.quota t s * (s + 1) ∧ (Fp.quota t s - 1) * (s + 1) ≤ t) ∧ (0 ≤ t ∧ t ≤ 60 ∧ 1 ≤ s ∧ s ≤ 2) ∧ Fp.quota t s ≤ 61 := by
  cases h1 : Fp.inr t 0 60
  · rw [Fp.quota_no t s (.inl h1)] at h; omega
  · cases h2 : Fp.inr s 1 2
    · rw [Fp.quota_no t s (.inr h2)] at h; omega
    · rw [Fp.quota_in t s h1 h2]
      have a := (Fp.inr_iff _ _ _).1 h1
      have b := (Fp.inr_iff _ _ _).1 h2
      rcases (show s = 1 ∨ s = 2 by omega) with rfl | rfl <;> omega

set_option maxRecDepth 100000 in
set_option maxHeartbeats 800000 in
theorem lawQuota_any (A : Option Addr) (n c : Nat) (w : World) (h : Bytes w w.heap.size A n) (hn : n ≤ 9223372036854775807) (hc : n ≤ c) :
    Calls Try.prog 4 #[.slice A n c] w fun e w' => e = .returned (.bool true) ∧ Below w.heap.size w w' := by
  by_cases hb : 1048576 < n
  · go_enter Try.func4, Try.ntmps4
    go_wp2_with fail
    go_ret
    exact ⟨rfl, Below.refl _ _⟩
  · go_enter Try.func4, Try.ntmps4
    go_wp2_with fail
    refine (drawQuota_any A n c w h hn hc).mono ?_
    rintro e w1 ⟨t, s, rfl, hb1⟩
    by_cases hq : 0 ≤ Fp.quota t s
    · obtain ⟨⟨q1, q2⟩, ⟨t0, t1, s0, s1⟩, q3⟩ := quota_law t s hq
      obtain ⟨q, hqq⟩ : ∃ q, Fp.quota t s = q := ⟨_, rfl⟩
      rw [hqq] at hq q1 q2 q3
      have b1 : 0 ≤ q * (s + 1) := Int.mul_nonneg hq (by omega)
      have b2 : q * (s + 1) ≤ 61 * 3 := Int.mul_le_mul q3 (by omega) (by omega) (by omega)
      have b3 : -3 ≤ (q - 1) * (s + 1) := by
        have : (q - 1) * (s + 1) = q * (s + 1) - (s + 1) := by rw [Int.sub_mul, Int.one_mul]
        omega
      go_wp2_with (first | (go_at_call 8; refine (sQuota_any _ _ _).mono ?_; rintro e w' ⟨rfl, rfl⟩) | (go_at_call 9; refine (iQuota_any _ _ _).mono ?_; rintro e w' ⟨rfl, rfl⟩))
      go_ret
      exact ⟨rfl, hb1⟩
    · go_wp2_with (first | (go_at_call 8; refine (sQuota_any _ _ _).mono ?_; rintro e w' ⟨rfl, rfl⟩) | (go_at_call 9; refine (iQuota_any _ _ _).mono ?_; rintro e w' ⟨rfl, rfl⟩))
      go_ret
      exact ⟨rfl, hb1⟩
end Go.Proofs.Ytpkkgkepmbpkeaa
