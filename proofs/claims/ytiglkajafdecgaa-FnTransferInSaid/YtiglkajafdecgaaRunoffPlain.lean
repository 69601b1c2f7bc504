/-
  Plain words for a runoff: when it ends, who leaves, the rounds. No program in sight.
-/
import Derived.Test.YtiglkajafdecgaaFirstPlain
namespace Go.Proofs.Ytiglkajafdecgaa.Bp
set_option linter.unusedVariables false
open Go

def left? (left : List Bool) (c : Int) : Bool := left.getD c.toNat false
/-- how many candidates of the first k have not left -/
def thereTo (left : List Bool) : Nat → Int
  | 0 => 0
  | k + 1 => if left.getD k false then thereTo left k else thereTo left k + 1
def there (left : List Bool) : Int := thereTo left left.length
theorem thereTo_bd (left : List Bool) : ∀ k, 0 ≤ thereTo left k ∧ thereTo left k ≤ k
  | 0 => by simp [thereTo]
  | k + 1 => by
    have := thereTo_bd left k
    rw [thereTo]
    split <;> omega
theorem thereTo_set (left : List Bool) (c : Nat) (hc : left.getD c false = false) (hl : c < left.length) : ∀ k, thereTo (left.set c true) k = if c < k then thereTo left k - 1 else thereTo left k
  | 0 => by simp [thereTo]
  | k + 1 => by
    have ih := thereTo_set left c hc hl k
    rw [thereTo, thereTo, ih]
    by_cases h : c = k
    · subst h
      have e : (left.set c true).getD c false = true := by simp [List.getD, hl]
      rw [e, hc]
      simp
    · have e : (left.set c true).getD k false = left.getD k false := by simp [List.getD, h]
      rw [e]
      by_cases h2 : c < k
      · have h3 : c < k + 1 := by omega
        rw [if_pos h2, if_pos h3]
        split <;> omega
      · have h3 : ¬ c < k + 1 := by omega
        rw [if_neg h2, if_neg h3]
theorem there_set (left : List Bool) (c : Nat) (hc : left.getD c false = false) (hl : c < left.length) : there (left.set c true) = there left - 1 := by
  unfold there
  rw [List.length_set, thereTo_set left c hc hl, if_pos hl]
theorem thereTo_none (left : List Bool) : ∀ k, thereTo left k = 0 → ∀ j, j < k → left.getD j false = true
  | 0, _, j, h => absurd h (by omega)
  | k + 1, he, j, h => by
    have hb := thereTo_bd left k
    rw [thereTo] at he
    split at he
    · next h2 =>
      by_cases hj : j = k
      · subst hj; exact h2
      · exact thereTo_none left k he j (by omega)
    · omega
theorem thereTo_fresh (n : Nat) : ∀ k, k ≤ n → thereTo (List.replicate n false) k = k
  | 0, _ => rfl
  | k + 1, h => by
    have e : (List.replicate n false).getD k false = false := by simp [List.getD, show k < n by omega]
    rw [thereTo, thereTo_fresh n k (by omega), e]
    simp
theorem there_fresh (n : Nat) : there (List.replicate n false) = n := by
  unfold there
  rw [List.length_replicate]
  exact thereTo_fresh n n (Nat.le_refl _)
/-- the sum of the first k numbers -/
def addUp (l : List Int) : Nat → Int
  | 0 => 0
  | k + 1 => addUp l k + l.getD k 0
theorem addUp_bd {l : List Int} {q : Int} (h : Bd l q) : ∀ k : Nat, 0 ≤ addUp l k ∧ addUp l k ≤ q * k
  | 0 => by simp [addUp]
  | k + 1 => by
    have ih := addUp_bd h k
    have := h k
    rw [addUp]
    have e : q * ((k + 1 : Nat) : Int) = q * k + q := by rw [Int.natCast_add, Int.mul_add]; simp
    omega
/-- the greatest of the first k numbers, or 0 -/
def maxTo (l : List Int) : Nat → Int
  | 0 => 0
  | k + 1 => max (maxTo l k) (l.getD k 0)
theorem maxTo_ge (l : List Int) : ∀ k j, j < k → l.getD j 0 ≤ maxTo l k
  | 0, j, h => absurd h (by omega)
  | k + 1, j, h => by
    rw [maxTo]
    by_cases hj : j = k
    · subst hj; omega
    · have := maxTo_ge l k j (by omega); omega
theorem maxTo_is (l : List Int) : ∀ k, maxTo l k = 0 ∨ ∃ j, j < k ∧ maxTo l k = l.getD j 0
  | 0 => .inl rfl
  | k + 1 => by
    rw [maxTo]
    by_cases h : maxTo l k ≤ l.getD k 0
    · exact .inr ⟨k, by omega, by omega⟩
    · rcases maxTo_is l k with h1 | ⟨j, hj, h1⟩
      · exact .inl (by omega)
      · exact .inr ⟨j, by omega, by omega⟩
theorem maxTo_bd {l : List Int} {q : Int} (h : Bd l q) (k : Nat) : 0 ≤ maxTo l k ∧ maxTo l k ≤ q := by
  have h0 := h 0
  rcases maxTo_is l k with e | ⟨j, _, e⟩
  · omega
  · have := h j; omega
/-- is a round the last one? -/
def rdone (counts : List Int) (left : List Bool) : Bool := decide (there left = 1) || decide (addUp counts counts.length < 2 * maxTo counts counts.length)
/-- who leaves, up to place k of the lots: of those with the least count, the one whose lot comes last -/
def leastTo (counts : List Int) (left : List Bool) (lots : List Int) : Nat → Int
  | 0 => -1
  | k + 1 => if left.getD (lots.getD k 0).toNat false then leastTo counts left lots k else
      if leastTo counts left lots k < 0 ∨ counts.getD (lots.getD k 0).toNat 0 ≤ counts.getD (leastTo counts left lots k).toNat 0 then lots.getD k 0 else leastTo counts left lots k
def least (counts : List Int) (left : List Bool) (lots : List Int) : Int := leastTo counts left lots lots.length
theorem leastTo_is (counts : List Int) (left : List Bool) (lots : List Int) (hr : ∀ j, j < lots.length → 0 ≤ lots.getD j 0) : ∀ k, k ≤ lots.length →
    (leastTo counts left lots k = -1 ∧ ∀ j, j < k → left.getD (lots.getD j 0).toNat false = true) ∨
    (∃ p, p < k ∧ leastTo counts left lots k = lots.getD p 0 ∧ left.getD (lots.getD p 0).toNat false = false ∧
      (∀ j, j < k → left.getD (lots.getD j 0).toNat false = false → counts.getD (lots.getD p 0).toNat 0 ≤ counts.getD (lots.getD j 0).toNat 0) ∧
      (∀ j, p < j → j < k → left.getD (lots.getD j 0).toNat false = false → counts.getD (lots.getD p 0).toNat 0 < counts.getD (lots.getD j 0).toNat 0))
  | 0, _ => .inl ⟨rfl, fun j hj => absurd hj (by omega)⟩
  | k + 1, hk => by
    have ih := leastTo_is counts left lots hr k (by omega)
    rw [leastTo]
    cases hl : left.getD (lots.getD k 0).toNat false
    · rcases ih with ⟨e, h1⟩ | ⟨p, hp, e, hlp, h1, h2⟩
      · rw [e, if_neg (by simp), if_pos (.inl (by omega))]
        refine .inr ⟨k, by omega, rfl, hl, fun j hj hlj => ?_, fun j hj hj2 => absurd hj2 (by omega)⟩
        by_cases hjk : j = k
        · subst hjk; exact Int.le_refl _
        · rw [h1 j (by omega)] at hlj; cases hlj
      · have hp0 := hr p (by omega)
        rw [e, if_neg (by simp)]
        by_cases hc : counts.getD (lots.getD k 0).toNat 0 ≤ counts.getD (lots.getD p 0).toNat 0
        · rw [if_pos (.inr hc)]
          refine .inr ⟨k, by omega, rfl, hl, fun j hj hlj => ?_, fun j hj hj2 => absurd hj2 (by omega)⟩
          by_cases hjk : j = k
          · subst hjk; exact Int.le_refl _
          · have := h1 j (by omega) hlj; omega
        · rw [if_neg (by omega)]
          refine .inr ⟨p, by omega, rfl, hlp, fun j hj hlj => ?_, fun j hj hj2 hlj => ?_⟩
          · by_cases hjk : j = k
            · subst hjk; omega
            · exact h1 j (by omega) hlj
          · by_cases hjk : j = k
            · subst hjk; omega
            · exact h2 j hj (by omega) hlj
    · rw [if_pos rfl]
      rcases ih with ⟨e, h1⟩ | ⟨p, hp, e, hlp, h1, h2⟩
      · refine .inl ⟨e, fun j hj => ?_⟩
        by_cases hjk : j = k
        · subst hjk; exact hl
        · exact h1 j (by omega)
      · refine .inr ⟨p, by omega, e, hlp, fun j hj hlj => ?_, fun j hj hj2 hlj => ?_⟩
        · by_cases hjk : j = k
          · subst hjk; rw [hl] at hlj; cases hlj
          · exact h1 j (by omega) hlj
        · by_cases hjk : j = k
          · subst hjk; rw [hl] at hlj; cases hlj
          · exact h2 j hj (by omega) hlj
/-- somebody leaves, where somebody is there -/
theorem least_is (counts : List Int) (left : List Bool) (lots : List Int) (hl : lval lots = true) (hn : left.length = lots.length) (ht : there left ≠ 0) :
    ∃ p, p < lots.length ∧ least counts left lots = lots.getD p 0 ∧ left.getD (lots.getD p 0).toNat false = false ∧
      (∀ j, j < lots.length → left.getD (lots.getD j 0).toNat false = false → counts.getD (lots.getD p 0).toNat 0 ≤ counts.getD (lots.getD j 0).toNat 0) ∧
      (∀ j, p < j → j < lots.length → left.getD (lots.getD j 0).toNat false = false → counts.getD (lots.getD p 0).toNat 0 < counts.getD (lots.getD j 0).toNat 0) := by
  rcases leastTo_is counts left lots (fun j hj => (lval_at hl j hj).1) lots.length (Nat.le_refl _) with ⟨_, h1⟩ | h
  · exfalso
    apply ht
    have hall : ∀ k, k ≤ left.length → thereTo left k = 0 := by
      intro k
      induction k with
      | zero => intro _; rfl
      | succ k ih =>
        intro hk
        obtain ⟨j, hj, e⟩ := List.getElem_of_mem (lval_all hl k (by omega))
        have := h1 j hj
        rw [getD_get _ _ hj, e, Int.toNat_natCast] at this
        rw [thereTo, this, ih (by omega)]
        rfl
    exact hall _ (Nat.le_refl _)
  · exact h
theorem least_uniq (counts : List Int) (left : List Bool) (lots : List Int) (p q : Nat) (hp : p < lots.length) (hq : q < lots.length)
    (hlp : left.getD (lots.getD p 0).toNat false = false) (hlq : left.getD (lots.getD q 0).toNat false = false)
    (h1 : ∀ j, j < lots.length → left.getD (lots.getD j 0).toNat false = false → counts.getD (lots.getD p 0).toNat 0 ≤ counts.getD (lots.getD j 0).toNat 0)
    (h2 : ∀ j, p < j → j < lots.length → left.getD (lots.getD j 0).toNat false = false → counts.getD (lots.getD p 0).toNat 0 < counts.getD (lots.getD j 0).toNat 0)
    (g1 : ∀ j, j < lots.length → left.getD (lots.getD j 0).toNat false = false → counts.getD (lots.getD q 0).toNat 0 ≤ counts.getD (lots.getD j 0).toNat 0)
    (g2 : ∀ j, q < j → j < lots.length → left.getD (lots.getD j 0).toNat false = false → counts.getD (lots.getD q 0).toNat 0 < counts.getD (lots.getD j 0).toNat 0) : p = q := by
  rcases Nat.lt_trichotomy p q with h | h | h
  · have a := h2 q h hq hlq
    have b := g1 p hp hlp
    omega
  · exact h
  · have a := g2 p h hp hlp
    have b := h1 q hq hlq
    omega
/-- the rounds of a runoff, at most f of them -/
def rnds (ps : List Pile) (lots : List Int) : Nat → List Bool → List (List Int × Int)
  | 0, _ => []
  | f + 1, left => if rdone (firsts ps left) left then [(firsts ps left, -1)] else
      (firsts ps left, least (firsts ps left) left lots) :: rnds ps lots f (left.set (least (firsts ps left) left lots).toNat true)
def rounds (ps : List Pile) (lots : List Int) : List (List Int × Int) := rnds ps lots lots.length (List.replicate lots.length false)
end Go.Proofs.Ytiglkajafdecgaa.Bp
