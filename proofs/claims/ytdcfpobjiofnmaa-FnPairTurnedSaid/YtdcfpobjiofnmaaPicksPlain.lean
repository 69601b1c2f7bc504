/-
  Plain: the candidates of whom something holds. No program in sight.
-/
import Derived.Test.YtdcfpobjiofnmaaPathsPlain
namespace Go.Proofs.Ytdcfpobjiofnmaa.Bp
set_option linter.unusedVariables false
open Go

/-- the numbers below k of whom p holds -/
def picks (p : Nat → Bool) : Nat → List Int
  | 0 => []
  | k + 1 => if p k then picks p k ++ [(k : Int)] else picks p k
theorem picks_len (p : Nat → Bool) : ∀ k, (picks p k).length ≤ k
  | 0 => Nat.le_refl _
  | k + 1 => by
    have := picks_len p k
    rw [picks]
    split
    · simp; omega
    · omega
theorem picks_mem (p : Nat → Bool) (x : Int) : ∀ k, x ∈ picks p k ↔ ∃ j : Nat, j < k ∧ x = j ∧ p j = true
  | 0 => by simp [picks]
  | k + 1 => by
    have ih := picks_mem p x k
    rw [picks]
    split
    · next h =>
      rw [List.mem_append, ih]
      constructor
      · rintro (⟨j, hj, e, hp⟩ | h1)
        · exact ⟨j, by omega, e, hp⟩
        · exact ⟨k, by omega, by simpa using h1, h⟩
      · rintro ⟨j, hj, e, hp⟩
        by_cases hk : j = k
        · subst hk; exact .inr (by simp [e])
        · exact .inl ⟨j, by omega, e, hp⟩
    · next h =>
      rw [ih]
      constructor
      · rintro ⟨j, hj, e, hp⟩
        exact ⟨j, by omega, e, hp⟩
      · rintro ⟨j, hj, e, hp⟩
        by_cases hk : j = k
        · subst hk; exact absurd hp h
        · exact ⟨j, by omega, e, hp⟩
theorem picks_congr {p q : Nat → Bool} : ∀ {k}, (∀ j, j < k → p j = q j) → picks p k = picks q k
  | 0, _ => rfl
  | k + 1, h => by rw [picks, picks, h k (by omega), picks_congr (fun j hj => h j (by omega))]
/-- all of the first k -/
def allTo (p : Nat → Bool) : Nat → Bool
  | 0 => true
  | k + 1 => allTo p k && p k
theorem allTo_iff (p : Nat → Bool) : ∀ k, allTo p k = true ↔ ∀ j, j < k → p j = true
  | 0 => by simp [allTo]
  | k + 1 => by
    have ih := allTo_iff p k
    rw [allTo, Bool.and_eq_true, ih]
    constructor
    · rintro ⟨h1, h2⟩ j hj
      by_cases e : j = k
      · subst e; exact h2
      · exact h1 j (by omega)
    · intro h
      exact ⟨fun j hj => h j (by omega), h k (by omega)⟩
/-- whether no path to i is stronger than the one back -/
def isBest (f : Nat → Nat → Int) (n i : Nat) : Bool := allTo (fun j => decide (f j i ≤ f i j)) n
def bests (ps : List Pile) (n : Nat) : List Int := picks (isBest (pathF ps n) n) n
end Go.Proofs.Ytdcfpobjiofnmaa.Bp
