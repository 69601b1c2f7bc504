/-
  Plain facts on pairs: whom a ballot prefers, how many ballots prefer one to another, tables. No program in sight.
-/
import Derived.Test.YtdcfpobjiofnmaaCountPlain
namespace Go.Proofs.Ytdcfpobjiofnmaa.Bp
set_option linter.unusedVariables false
open Go

theorem bal_val (s : ByteArray) : bval (bal s) 5 = true := by
  cases h : pok s
  · rw [bal_no s h]; decide
  · rw [bal_yes s h]; exact h
theorem least_of (P : Nat → Prop) (hP : ∀ j, P j ∨ ¬ P j) : ∀ n, (∀ j, j < n → ¬ P j) ∨ ∃ p, p < n ∧ P p ∧ ∀ j, j < p → ¬ P j
  | 0 => .inl fun j hj => absurd hj (by omega)
  | n + 1 => by
    rcases least_of P hP n with h | ⟨p, hp, h1, h2⟩
    · rcases hP n with h1 | h1
      · exact .inr ⟨n, by omega, h1, h⟩
      · exact .inl fun j hj => by
          rcases Nat.lt_or_ge j n with h2 | h2
          · exact h j h2
          · obtain rfl : j = n := by omega
            exact h1
    · exact .inr ⟨p, by omega, h1, h2⟩
theorem idx_cases (l : List Int) (x : Int) : (idx l x = -1 ∧ ∀ j, j < l.length → l.getD j 0 ≠ x) ∨ ∃ p : Nat, p < l.length ∧ idx l x = p ∧ l.getD p 0 = x ∧ ∀ j, j < p → l.getD j 0 ≠ x := by
  rcases least_of (fun j => l.getD j 0 = x) (fun j => by by_cases h : l.getD j 0 = x; exact .inl h; exact .inr h) l.length with h | ⟨p, hp, h1, h2⟩
  · exact .inl ⟨idx_none l x h, h⟩
  · exact .inr ⟨p, hp, idx_found l x p hp h1 h2, h1, h2⟩
/-- whether a ballot prefers a candidate to another one -/
def prefers (b : List Int) (x y : Int) : Bool := (x != y) && (decide (0 ≤ idx b x) && (decide (idx b y < 0) || decide (idx b x < idx b y)))
theorem prefers_self (b : List Int) {x y : Int} (h : x = y) : prefers b x y = false := by subst h; simp [prefers]
theorem prefers_ne (b : List Int) {x y : Int} (h : x ≠ y) : prefers b x y = (decide (0 ≤ idx b x) && (decide (idx b y < 0) || decide (idx b x < idx b y))) := by
  unfold prefers
  rw [show (x != y) = true by simpa using h]
  rfl
theorem prefers_x {b : List Int} {x y : Int} {k : Nat} (hk : k < b.length) (hxy : x ≠ y) (hx : b.getD k 0 = x) (hn : ∀ j, j < k → b.getD j 0 ≠ x ∧ b.getD j 0 ≠ y) : prefers b x y = true := by
  rw [prefers_ne b hxy, idx_found b x k hk hx (fun j hj => (hn j hj).1)]
  rcases idx_cases b y with ⟨h1, _⟩ | ⟨p, hp, h1, h2, _⟩
  · rw [h1]; simp
  · rw [h1]
    have : k < p := by
      rcases Nat.lt_trichotomy k p with h | h | h
      · exact h
      · subst h; exact absurd (hx.symm.trans h2) hxy
      · exact absurd h2 (hn p h).2
    simp; omega
theorem prefers_y {b : List Int} {x y : Int} {k : Nat} (hk : k < b.length) (hxy : x ≠ y) (hy : b.getD k 0 = y) (hn : ∀ j, j < k → b.getD j 0 ≠ x ∧ b.getD j 0 ≠ y) : prefers b x y = false := by
  rw [prefers_ne b hxy, idx_found b y k hk hy (fun j hj => (hn j hj).2)]
  rcases idx_cases b x with ⟨h1, _⟩ | ⟨p, hp, h1, h2, _⟩
  · rw [h1]; simp
  · rw [h1]
    have : k < p := by
      rcases Nat.lt_trichotomy k p with h | h | h
      · exact h
      · subst h; exact absurd (h2.symm.trans hy) hxy
      · exact absurd h2 (hn p h).1
    simp; omega
theorem prefers_none {b : List Int} {x y : Int} (hn : ∀ j, j < b.length → b.getD j 0 ≠ x) : prefers b x y = false := by
  unfold prefers
  rw [idx_none b x hn]
  simp
theorem prefers_anti {b : List Int} {x y : Int} (h : prefers b x y = true) : prefers b y x = false := by
  by_cases hxy : x = y
  · rw [prefers_self b hxy] at h; cases h
  · rw [prefers_ne b hxy] at h
    rw [prefers_ne b (Ne.symm hxy)]
    simp only [Bool.and_eq_true, Bool.or_eq_true, decide_eq_true_eq] at h
    obtain ⟨h1, h2⟩ := h
    rw [show decide (idx b x < 0) = false from decide_eq_false (by omega), Bool.false_or]
    rcases h2 with h2 | h2
    · rw [show decide (0 ≤ idx b y) = false from decide_eq_false (by omega)]; rfl
    · rw [show decide (idx b y < idx b x) = false from decide_eq_false (by omega), Bool.and_false]
/-- how many ballots of the first k piles prefer x to y -/
def prefTo (ps : List Pile) (x y : Int) : Nat → Int
  | 0 => 0
  | k + 1 => if prefers (bal (ps.getD k default).1) x y then prefTo ps x y k + (ps.getD k default).2 else prefTo ps x y k
def pref (ps : List Pile) (x y : Int) : Int := prefTo ps x y ps.length
theorem prefTo_bd {ps : List Pile} (x y : Int) (hv : psval ps = true) : ∀ k, k ≤ ps.length → 0 ≤ prefTo ps x y k ∧ prefTo ps x y k ≤ 99 * k
  | 0, _ => ⟨Int.le_refl _, Int.le_refl _⟩
  | k + 1, hk => by
    have ih := prefTo_bd x y hv k (by omega)
    have hp := (pval_iff _).1 (psval_at ps hv k (by omega))
    rw [prefTo]
    split <;> omega
theorem pref_bd {ps : List Pile} (x y : Int) (hv : psval ps = true) : 0 ≤ pref ps x y ∧ pref ps x y ≤ 1188 := by
  have h := prefTo_bd x y hv ps.length (Nat.le_refl _)
  have hl := ((psval_iff ps).1 hv).1
  unfold pref
  omega
theorem prefTo_self (ps : List Pile) (x : Int) : ∀ k, prefTo ps x x k = 0
  | 0 => rfl
  | k + 1 => by rw [prefTo, prefers_self _ rfl, prefTo_self ps x k]; rfl

/-- a row of n numbers -/
def tab (n : Nat) (f : Nat → Int) : List Int := (List.range n).map f
theorem tab_len (n : Nat) (f : Nat → Int) : (tab n f).length = n := by simp [tab]
theorem tab_at (n : Nat) (f : Nat → Int) {j : Nat} (h : j < n) : (tab n f).getD j 0 = f j := by simp [tab, List.getD, h]
theorem tab_congr {n : Nat} {f g : Nat → Int} (h : ∀ j, j < n → f j = g j) : tab n f = tab n g := by
  unfold tab
  apply List.map_congr_left
  intro j hj
  exact h j (List.mem_range.1 hj)
theorem tab_set {n : Nat} {f g : Nat → Int} {i : Nat} {v : Int} (hi : i < n) (hv : g i = v) (h : ∀ j, j < n → j ≠ i → f j = g j) : (tab n f).set i v = tab n g := by
  apply List.ext_getElem
  · simp [tab]
  · intro j h1 h2
    rw [tab_len] at h2
    by_cases hj : j = i
    · subst hj; simp [tab, hv]
    · rw [List.getElem_set_ne (Ne.symm hj)]
      simp [tab, h j h2 hj]
theorem tab_zero (n : Nat) : List.replicate n (0 : Int) = tab n fun _ => 0 := by
  unfold tab
  apply List.ext_getElem
  · simp
  · intro j h1 h2; simp
theorem tab_ext {n : Nat} {l : List Int} {f : Nat → Int} (hl : l.length = n) (h : ∀ j, j < n → l.getD j 0 = f j) : l = tab n f := by
  apply List.ext_getElem
  · rw [tab_len]; exact hl
  · intro j h1 h2
    have := h j (by omega)
    simp [List.getD, h1] at this
    simp [tab, this]
/-- the first k rows of a table -/
def tabTo (n : Nat) (f : Nat → Nat → Int) (k : Nat) : List (List Int) := (List.range k).map fun x => tab n (f x)
theorem tabTo_len (n : Nat) (f : Nat → Nat → Int) (k : Nat) : (tabTo n f k).length = k := by simp [tabTo]
theorem tabTo_succ (n : Nat) (f : Nat → Nat → Int) (k : Nat) : tabTo n f (k + 1) = tabTo n f k ++ [tab n (f k)] := by
  unfold tabTo
  rw [List.range_succ, List.map_append]
  rfl
theorem tabTo_at (n : Nat) (f : Nat → Nat → Int) {k x : Nat} (h : x < k) : (tabTo n f k).getD x [] = tab n (f x) := by simp [tabTo, List.getD, h]
def tabs (n : Nat) (f : Nat → Nat → Int) : List (List Int) := tabTo n f n
theorem tabs_len (n : Nat) (f : Nat → Nat → Int) : (tabs n f).length = n := tabTo_len n f n
theorem tabs_at (n : Nat) (f : Nat → Nat → Int) {x : Nat} (h : x < n) : (tabs n f).getD x [] = tab n (f x) := tabTo_at n f h
/-- a table's number -/
def cellOf (t : List (List Int)) (x y : Nat) : Int := (t.getD x []).getD y 0
theorem tabs_cell (n : Nat) (f : Nat → Nat → Int) {x y : Nat} (hx : x < n) (hy : y < n) : cellOf (tabs n f) x y = f x y := by
  unfold cellOf
  rw [tabs_at n f hx, tab_at n _ hy]
theorem tabs_congr {n : Nat} {f g : Nat → Nat → Int} (h : ∀ x y, x < n → y < n → f x y = g x y) : tabs n f = tabs n g := by
  unfold tabs tabTo
  apply List.map_congr_left
  intro x hx
  exact tab_congr fun y hy => h x y (List.mem_range.1 hx) hy
theorem tabs_set {n : Nat} {f g : Nat → Nat → Int} {x y : Nat} {v : Int} (hx : x < n) (hy : y < n) (hv : g x y = v) (h : ∀ i j, i < n → j < n → ¬ (i = x ∧ j = y) → f i j = g i j) :
    (tabs n f).set x (((tabs n f).getD x []).set y v) = tabs n g := by
  rw [tabs_at n f hx, tab_set (g := g x) hy hv (fun j hj hne => h x j hx hj (fun e => hne e.2))]
  apply List.ext_getElem
  · simp [tabs, tabTo]
  · intro i h1 h2
    rw [tabs_len] at h2
    by_cases hi : i = x
    · subst hi; simp [tabs, tabTo]
    · rw [List.getElem_set_ne (Ne.symm hi)]
      simp only [tabs, tabTo, List.getElem_map, List.getElem_range]
      exact tab_congr fun j hj => h i j h2 hj (fun e => hi e.1)
/-- the table of pairs -/
def pairs (ps : List Pile) (n : Nat) : List (List Int) := tabs n fun x y => pref ps x y
end Go.Proofs.Ytdcfpobjiofnmaa.Bp
