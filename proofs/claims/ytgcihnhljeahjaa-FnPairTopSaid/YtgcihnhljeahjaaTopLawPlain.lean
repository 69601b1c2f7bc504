/-
  Plain facts on the top: in order; each one of several has a rival in it. No program in sight.
-/
import Derived.Test.YtgcihnhljeahjaaTopPlain
namespace Go.Proofs.Ytgcihnhljeahjaa.Bp
set_option linter.unusedVariables false
open Go

theorem picks_lt (p : Nat → Bool) : ∀ k i j, i < j → j < (picks p k).length → (picks p k).getD i 0 < (picks p k).getD j 0
  | 0, _, _, _, h => by simp [picks] at h
  | k + 1, i, j, hij, h => by
    rw [picks] at h ⊢
    cases hp : p k
    · rw [hp, if_neg (by simp)] at h
      rw [if_neg (by simp)]
      exact picks_lt p k i j hij h
    · rw [hp, if_pos rfl] at h
      rw [if_pos rfl]
      by_cases hj : j < (picks p k).length
      · have e1 : (picks p k ++ [(k : Int)]).getD i 0 = (picks p k).getD i 0 := by simp [List.getD, List.getElem?_append_left (show i < (picks p k).length by omega)]
        have e2 : (picks p k ++ [(k : Int)]).getD j 0 = (picks p k).getD j 0 := by simp [List.getD, List.getElem?_append_left hj]
        rw [e1, e2]
        exact picks_lt p k i j hij hj
      · have ej : j = (picks p k).length := by simp at h; omega
        have e1 : (picks p k ++ [(k : Int)]).getD i 0 = (picks p k).getD i 0 := by simp [List.getD, List.getElem?_append_left (show i < (picks p k).length by omega)]
        have e2 : (picks p k ++ [(k : Int)]).getD j 0 = (k : Int) := by subst ej; simp [List.getD]
        rw [e1, e2]
        have hm : (picks p k).getD i 0 ∈ picks p k := by
          have hi : i < (picks p k).length := by omega
          have : (picks p k).getD i 0 = (picks p k)[i] := by simp [List.getD, hi]
          rw [this]; exact List.getElem_mem hi
        obtain ⟨q, hq, e, _⟩ := (picks_mem p _ k).1 hm
        rw [e]; omega
theorem picks_get (p : Nat → Bool) {k i : Nat} (hi : i < (picks p k).length) : ∃ j : Nat, j < k ∧ (picks p k).getD i 0 = j ∧ p j = true := by
  have hm : (picks p k).getD i 0 ∈ picks p k := by
    have : (picks p k).getD i 0 = (picks p k)[i] := by simp [List.getD, hi]
    rw [this]; exact List.getElem_mem hi
  obtain ⟨q, hq, e, h⟩ := (picks_mem p _ k).1 hm
  exact ⟨q, hq, e, h⟩
/-- each one of several in the top has one in it that is not beaten -/
theorem top_rival (ps : List Pile) {n x z : Nat} (hx : x < n) (ht : isTop ps n x = true) (hz : z < n) (hzt : isTop ps n z = true) (hne : z ≠ x) : ∃ k, k < n ∧ isTop ps n k = true ∧ k ≠ x ∧ pref ps x k ≤ pref ps k x := by
  apply Classical.byContradiction
  intro hcon
  have hall : ∀ y, y < n → y ≠ x → pref ps y x < pref ps x y := fun y hy hyx => by
    cases hty : isTop ps n y
    · exact top_beats ps hx hy ht hty
    · rcases Int.lt_or_le (pref ps y x) (pref ps x y) with h | h
      · exact h
      · exact absurd ⟨y, hy, hty, hyx, h⟩ hcon
  have := top_least ps (fun j => decide (j = x)) x hx (by simp) (fun a b ha hb h1 h2 => by
    have e : a = x := by simpa using h1
    subst e
    exact hall b hb (by simpa using h2)) z hz hzt
  exact hne (by simpa using this)
/-- is p true below k? -/
def someTo (p : Nat → Bool) : Nat → Bool
  | 0 => false
  | k + 1 => someTo p k || p k
theorem someTo_of (p : Nat → Bool) : ∀ k j, j < k → p j = true → someTo p k = true
  | 0, _, h, _ => absurd h (by omega)
  | k + 1, j, h, hp => by
    rw [someTo]
    by_cases e : j = k
    · subst e; rw [hp]; simp
    · rw [someTo_of p k j (by omega) hp]; rfl
/-- the rival of place i in a list of the top -/
def rivals (ps : List Pile) (l : List Int) (i k : Nat) : Bool := !(k == i) && decide (pref ps (l.getD i 0).toNat (l.getD k 0).toNat ≤ pref ps (l.getD k 0).toNat (l.getD i 0).toNat)
theorem top_some_rival (ps : List Pile) {n i : Nat} (hi : i < (tops ps n).length) (h2 : 2 ≤ (tops ps n).length) : someTo (rivals ps (tops ps n) i) (tops ps n).length = true := by
  obtain ⟨x, hx, ex, htx⟩ := picks_get (isTop ps n) hi
  obtain ⟨z, hz, ez, hzt⟩ := picks_get (isTop ps n) (i := if i = 0 then 1 else 0) (k := n) (by show _ < (tops ps n).length; split <;> omega)
  have hne : z ≠ x := by
    intro e
    subst e
    rcases Nat.lt_or_ge 0 i with h | h
    · have := picks_lt (isTop ps n) n 0 i h hi
      rw [if_neg (by omega)] at ez
      rw [ez, ex] at this
      omega
    · have hi0 : i = 0 := by omega
      subst hi0
      have := picks_lt (isTop ps n) n 0 1 (by omega) h2
      rw [if_pos rfl] at ez
      rw [ez, ex] at this
      omega
  obtain ⟨k, hk, hkt, hkx, hp⟩ := top_rival ps hx htx hz hzt hne
  have hmem : (k : Int) ∈ tops ps n := (picks_mem (isTop ps n) _ n).2 ⟨k, hk, rfl, hkt⟩
  obtain ⟨q, hq, eq⟩ := List.mem_iff_getElem.1 hmem
  have eq' : (tops ps n).getD q 0 = (k : Int) := by simp [List.getD, hq, eq]
  refine someTo_of _ _ q hq ?_
  have ex' : (tops ps n).getD i 0 = (x : Int) := ex
  have hqi : q ≠ i := by
    intro e
    subst e
    rw [eq'] at ex'
    omega
  unfold rivals
  rw [eq', ex']
  simp [hqi, hp]
end Go.Proofs.Ytgcihnhljeahjaa.Bp
