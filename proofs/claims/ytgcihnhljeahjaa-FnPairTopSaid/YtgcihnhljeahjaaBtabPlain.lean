/-
  Plain facts on tables of truths. No program in sight.
-/
import Derived.Test.YtgcihnhljeahjaaTopPlain
namespace Go.Proofs.Ytgcihnhljeahjaa.Bp
set_option linter.unusedVariables false
open Go

/-- a row of n truths -/
def btab (n : Nat) (f : Nat → Bool) : List Bool := (List.range n).map f
theorem btab_len (n : Nat) (f : Nat → Bool) : (btab n f).length = n := by simp [btab]
theorem btab_at (n : Nat) (f : Nat → Bool) {j : Nat} (h : j < n) : (btab n f).getD j false = f j := by simp [btab, List.getD, h]
theorem btab_congr {n : Nat} {f g : Nat → Bool} (h : ∀ j, j < n → f j = g j) : btab n f = btab n g := by
  unfold btab
  apply List.map_congr_left
  intro j hj
  exact h j (List.mem_range.1 hj)
theorem btab_set {n : Nat} {f g : Nat → Bool} {i : Nat} {v : Bool} (hi : i < n) (hv : g i = v) (h : ∀ j, j < n → j ≠ i → f j = g j) : (btab n f).set i v = btab n g := by
  apply List.ext_getElem
  · simp [btab]
  · intro j h1 h2
    rw [btab_len] at h2
    by_cases hj : j = i
    · subst hj; simp [btab, hv]
    · rw [List.getElem_set_ne (Ne.symm hj)]
      simp [btab, h j h2 hj]
/-- the first k rows of a table -/
def btabTo (n : Nat) (f : Nat → Nat → Bool) (k : Nat) : List (List Bool) := (List.range k).map fun x => btab n (f x)
theorem btabTo_len (n : Nat) (f : Nat → Nat → Bool) (k : Nat) : (btabTo n f k).length = k := by simp [btabTo]
theorem btabTo_succ (n : Nat) (f : Nat → Nat → Bool) (k : Nat) : btabTo n f (k + 1) = btabTo n f k ++ [btab n (f k)] := by
  unfold btabTo
  rw [List.range_succ, List.map_append]
  rfl
theorem btabTo_at (n : Nat) (f : Nat → Nat → Bool) {k x : Nat} (h : x < k) : (btabTo n f k).getD x [] = btab n (f x) := by simp [btabTo, List.getD, h]
def btabs (n : Nat) (f : Nat → Nat → Bool) : List (List Bool) := btabTo n f n
theorem btabs_len (n : Nat) (f : Nat → Nat → Bool) : (btabs n f).length = n := btabTo_len n f n
theorem btabs_at (n : Nat) (f : Nat → Nat → Bool) {x : Nat} (h : x < n) : (btabs n f).getD x [] = btab n (f x) := btabTo_at n f h
/-- a table's truth -/
def bcellOf (t : List (List Bool)) (x y : Nat) : Bool := (t.getD x []).getD y false
theorem btabs_cell (n : Nat) (f : Nat → Nat → Bool) {x y : Nat} (hx : x < n) (hy : y < n) : bcellOf (btabs n f) x y = f x y := by
  unfold bcellOf
  rw [btabs_at n f hx, btab_at n _ hy]
theorem btabs_congr {n : Nat} {f g : Nat → Nat → Bool} (h : ∀ x y, x < n → y < n → f x y = g x y) : btabs n f = btabs n g := by
  unfold btabs btabTo
  apply List.map_congr_left
  intro x hx
  exact btab_congr fun y hy => h x y (List.mem_range.1 hx) hy
theorem btabs_set {n : Nat} {f g : Nat → Nat → Bool} {x y : Nat} {v : Bool} (hx : x < n) (hy : y < n) (hv : g x y = v) (h : ∀ i j, i < n → j < n → ¬ (i = x ∧ j = y) → f i j = g i j) :
    (btabs n f).set x (((btabs n f).getD x []).set y v) = btabs n g := by
  rw [btabs_at n f hx, btab_set (g := g x) hy hv (fun j hj hne => h x j hx hj (fun e => hne e.2))]
  apply List.ext_getElem
  · simp [btabs, btabTo]
  · intro i h1 h2
    rw [btabs_len] at h2
    by_cases hi : i = x
    · subst hi; simp [btabs, btabTo]
    · rw [List.getElem_set_ne (Ne.symm hi)]
      simp only [btabs, btabTo, List.getElem_map, List.getElem_range]
      exact btab_congr fun j hj => h i j h2 hj (fun e => hi e.1)

theorem btab_snoc (n : Nat) (f : Nat → Bool) : btab (n + 1) f = btab n f ++ [f n] := by
  unfold btab
  rw [List.range_succ, List.map_append]
  rfl
theorem bvia_tabs {n k x y : Nat} (f : Nat → Nat → Bool) (hx : x < n) (hy : y < n) :
    (btabs n f).set x (((btabs n f).getD x []).set y (f x y || (f x k && f k y))) = btabs n (bvia k x y f) :=
  btabs_set hx hy (by unfold bvia; rw [if_pos ⟨rfl, rfl⟩]) (fun i j _ _ h => by
    unfold bvia
    rw [if_neg h])
end Go.Proofs.Ytgcihnhljeahjaa.Bp
