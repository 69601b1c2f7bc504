/-
  Plain facts behind the laws of counts of pairs. No program in sight.
-/
import Derived.Test.YtdcfpobjiofnmaaPairPlain
import Derived.Test.YtdcfpobjiofnmaaMergePlain
namespace Go.Proofs.Ytdcfpobjiofnmaa.Bp
set_option linter.unusedVariables false
open Go

theorem prefTo_sum {ps : List Pile} (x y : Int) (hv : psval ps = true) : ∀ k, k ≤ ps.length → prefTo ps x y k + prefTo ps y x k ≤ sumTo ps k
  | 0, _ => by simp [prefTo, sumTo]
  | k + 1, hk => by
    have ih := prefTo_sum x y hv k (by omega)
    have hp := (pval_iff _).1 (psval_at ps hv k (by omega))
    rw [prefTo, prefTo, sumTo]
    cases h : prefers (bal (ps.getD k default).1) x y
    · rw [if_neg (by simp)]
      split <;> omega
    · rw [if_pos rfl, prefers_anti h, if_neg (by simp)]
      omega
theorem pref_sum {ps : List Pile} (x y : Int) (hv : psval ps = true) : pref ps x y + pref ps y x ≤ psum ps := prefTo_sum x y hv ps.length (Nat.le_refl _)
theorem pref_self (ps : List Pile) (x : Int) : pref ps x x = 0 := prefTo_self ps x _
theorem prefTo_take (ps : List Pile) (x y : Int) (k : Nat) : ∀ j, j ≤ k → prefTo (ps.take k) x y j = prefTo ps x y j
  | 0, _ => rfl
  | j + 1, h => by rw [prefTo, prefTo, take_getD _ _ _ (by omega), prefTo_take ps x y k j (by omega)]
theorem prefTo_drop (ps : List Pile) (x y : Int) (k : Nat) : ∀ j, prefTo ps x y (k + j) = prefTo ps x y k + prefTo (ps.drop k) x y j
  | 0 => by simp [prefTo]
  | j + 1 => by
    have ih := prefTo_drop ps x y k j
    rw [show k + (j + 1) = (k + j) + 1 by omega, prefTo, prefTo, drop_getD]
    split <;> omega
theorem pref_parts (ps : List Pile) (x y : Int) (k : Nat) (hk : k ≤ ps.length) : pref ps x y = pref (ps.take k) x y + pref (ps.drop k) x y := by
  have h := prefTo_drop ps x y k (ps.length - k)
  rw [show k + (ps.length - k) = ps.length by omega] at h
  unfold pref
  rw [h, List.length_drop, List.length_take, Nat.min_eq_left hk, prefTo_take ps x y k k (Nat.le_refl _)]
end Go.Proofs.Ytdcfpobjiofnmaa.Bp
