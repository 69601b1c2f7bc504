/-
  Plain facts on sets of candidates as numbers; PairTop of the program.
-/
import Derived.Test.YtdcfpobjiofnmaaTopI
namespace Go.Proofs.Ytdcfpobjiofnmaa
set_option linter.unusedVariables false
open Go.RowKit

namespace Bp
theorem set_of (p : Nat → Bool) (m : Nat) (m5 : m ≤ 5) : ∃ S, S < 2 ^ m ∧ ∀ x, x < 5 → isIn S x = (p x && decide (x < m)) := by
  obtain ⟨q, hq⟩ : ∃ q : Nat → Bool, q = fun x => p x && decide (x < m) := ⟨_, rfl⟩
  refine ⟨(q 0).toNat + 2 * (q 1).toNat + 4 * (q 2).toNat + 8 * (q 3).toNat + 16 * (q 4).toNat, ?_, fun x hx => ?_⟩
  · rcases (show m = 0 ∨ m = 1 ∨ m = 2 ∨ m = 3 ∨ m = 4 ∨ m = 5 by omega) with rfl | rfl | rfl | rfl | rfl | rfl
    all_goals
      subst hq
      simp
      try (cases p 0 <;> cases p 1 <;> cases p 2 <;> cases p 3 <;> cases p 4 <;> decide)
  · have e : (p x && decide (x < m)) = q x := by rw [hq]
    rw [e]
    have key : ∀ a b c d e : Bool, isIn (a.toNat + 2 * b.toNat + 4 * c.toNat + 8 * d.toNat + 16 * e.toNat) 0 = a ∧ isIn (a.toNat + 2 * b.toNat + 4 * c.toNat + 8 * d.toNat + 16 * e.toNat) 1 = b ∧ isIn (a.toNat + 2 * b.toNat + 4 * c.toNat + 8 * d.toNat + 16 * e.toNat) 2 = c ∧ isIn (a.toNat + 2 * b.toNat + 4 * c.toNat + 8 * d.toNat + 16 * e.toNat) 3 = d ∧ isIn (a.toNat + 2 * b.toNat + 4 * c.toNat + 8 * d.toNat + 16 * e.toNat) 4 = e := by decide +kernel
    obtain ⟨k0, k1, k2, k3, k4⟩ := key (q 0) (q 1) (q 2) (q 3) (q 4)
    rcases (show x = 0 ∨ x = 1 ∨ x = 2 ∨ x = 3 ∨ x = 4 by omega) with rfl | rfl | rfl | rfl | rfl
    · exact k0
    · exact k1
    · exact k2
    · exact k3
    · exact k4
theorem pop_eq : ∀ S, S < 32 → ∀ b, b < 32 → (∀ i, i < 5 → isIn S i = true → isIn b i = true) → pop b ≤ pop S → ∀ i, i < 5 → isIn b i = isIn S i := by decide +kernel
theorem full_in : ∀ m, m ≤ 5 → ∀ y, y < m → isIn (2 ^ m - 1) y = true := by
  intro m hm
  rcases (show m = 0 ∨ m = 1 ∨ m = 2 ∨ m = 3 ∨ m = 4 ∨ m = 5 by omega) with rfl | rfl | rfl | rfl | rfl | rfl <;> decide
theorem some_in : ∀ m, m ≤ 5 → ∀ s, s < 2 ^ m → 1 ≤ s → ∃ d, d < m ∧ isIn s d = true := by
  intro m hm
  rcases (show m = 0 ∨ m = 1 ∨ m = 2 ∨ m = 3 ∨ m = 4 ∨ m = 5 by omega) with rfl | rfl | rfl | rfl | rfl | rfl <;> decide +kernel
theorem pow_small {m : Nat} (m5 : m ≤ 5) : 1 ≤ 2 ^ m ∧ 2 ^ m ≤ 32 := by
  rcases (show m = 0 ∨ m = 1 ∨ m = 2 ∨ m = 3 ∨ m = 4 ∨ m = 5 by omega) with rfl | rfl | rfl | rfl | rfl | rfl <;> decide
theorem zero_in (x : Nat) : isIn 0 x = false := by unfold isIn; simp
theorem topset (ps : List Pile) {m b : Nat} (m1 : 1 ≤ m) (m5 : m ≤ 5) (hb1 : 1 ≤ b) (hbm : b < 2 ^ m) (hB : Beats (fun x y => pref ps x y) m b)
    (hmin : ∀ s, 1 ≤ s → s < 2 ^ m → Beats (fun x y => pref ps x y) m s → pop b ≤ pop s) (x : Nat) (hx : x < m) : isIn b x = isTop ps m x := by
  obtain ⟨S, hS, hin⟩ := set_of (isTop ps m) m m5
  have hp := pow_small m5
  obtain ⟨t, ht, htt⟩ := top_is ps m1
  have hS1 : 1 ≤ S := by
    rcases Nat.eq_zero_or_pos S with h | h
    · subst h
      have := hin t (by omega)
      rw [zero_in, htt, decide_eq_true ht] at this
      cases this
    · exact h
  have hSB : Beats (fun x y => pref ps x y) m S := fun a c ha hc h1 h2 => by
    rw [hin a (by omega), decide_eq_true ha, Bool.and_true] at h1
    rw [hin c (by omega), decide_eq_true hc, Bool.and_true] at h2
    exact top_beats ps ha hc h1 h2
  obtain ⟨d, hd, hdd⟩ := some_in m m5 b hbm hb1
  have := pop_eq S (by omega) b (by omega) (fun i hi h => by
    rw [hin i hi, Bool.and_eq_true, decide_eq_true_eq] at h
    exact top_least ps (isIn b) d hd hdd (fun x y hx hy h1 h2 => hB x y hx hy h1 h2) i h.2 h.1) (hmin S hS1 hS hSB) x (by omega)
  rw [this, hin x (by omega), decide_eq_true hx, Bool.and_true]
end Bp
end Go.Proofs.Ytdcfpobjiofnmaa
