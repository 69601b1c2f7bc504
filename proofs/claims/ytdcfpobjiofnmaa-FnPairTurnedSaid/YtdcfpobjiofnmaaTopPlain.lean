/-
  Plain facts on the top: who is reached by all steps that are not lost; the least set that beats all others. No program in sight.
-/
import Derived.Test.YtdcfpobjiofnmaaPathsLaw
import Derived.Test.YtdcfpobjiofnmaaPicksPlain
namespace Go.Proofs.Ytdcfpobjiofnmaa.Bp
set_option linter.unusedVariables false
open Go

/-- one way over k from x to y, on truths -/
def bvia (k x y : Nat) (f : Nat → Nat → Bool) (i j : Nat) : Bool := if i = x ∧ j = y then f x y || (f x k && f k y) else f i j
def bviaY (k x : Nat) (f : Nat → Nat → Bool) : Nat → Nat → Nat → Bool
  | 0 => f
  | y + 1 => bvia k x y (bviaY k x f y)
def bviaX (n k : Nat) (f : Nat → Nat → Bool) : Nat → Nat → Nat → Bool
  | 0 => f
  | x + 1 => bviaY k x (bviaX n k f x) n
def bviaO (n : Nat) (f : Nat → Nat → Bool) : Nat → Nat → Nat → Bool
  | 0 => f
  | k + 1 => bviaX n k (bviaO n f k) n
theorem bviaY_at (k x : Nat) (f : Nat → Nat → Bool) : ∀ (y i j : Nat), bviaY k x f y i j = if i = x ∧ j < y then f x j || (f x k && f k j) else f i j
  | 0, i, j => by rw [bviaY, if_neg (by omega)]
  | y + 1, i, j => by
    have ih := bviaY_at k x f y
    rw [bviaY]
    unfold bvia
    by_cases h : i = x ∧ j = y
    · obtain ⟨rfl, rfl⟩ := h
      rw [if_pos ⟨rfl, rfl⟩, if_pos ⟨rfl, by omega⟩, ih i j, if_neg (by omega), ih i k, ih k j]
      by_cases hk : k < j
      · rw [if_pos ⟨rfl, hk⟩, if_neg (by omega)]
        cases f i k <;> cases f k k <;> simp
      · rw [if_neg (show ¬ (i = i ∧ k < j) by omega), if_neg (by omega)]
    · rw [if_neg h, ih i j]
      by_cases h2 : i = x ∧ j < y
      · rw [if_pos h2, if_pos ⟨h2.1, by omega⟩]
      · rw [if_neg h2, if_neg (fun e => by
          obtain ⟨e1, e2⟩ := e
          by_cases hj : j = y
          · exact h ⟨e1, hj⟩
          · exact h2 ⟨e1, by omega⟩)]
theorem bviaX_at (n k : Nat) (f : Nat → Nat → Bool) : ∀ (x i j : Nat), bviaX n k f x i j = if i < x ∧ j < n then f i j || (f i k && f k j) else f i j
  | 0, i, j => by rw [bviaX, if_neg (by omega)]
  | x + 1, i, j => by
    have ih := bviaX_at n k f x
    rw [bviaX, bviaY_at k x _ n i j]
    by_cases h : i = x ∧ j < n
    · obtain ⟨rfl, hj⟩ := h
      rw [if_pos ⟨rfl, hj⟩, if_pos ⟨by omega, hj⟩, ih i j, if_neg (by omega), ih i k, if_neg (by omega), ih k j]
      by_cases hk : k < i ∧ j < n
      · rw [if_pos hk]
        cases f i j <;> cases f i k <;> cases f k j <;> cases f k k <;> rfl
      · rw [if_neg hk]
    · rw [if_neg h, ih i j]
      by_cases h2 : i < x ∧ j < n
      · rw [if_pos h2, if_pos ⟨by omega, h2.2⟩]
      · rw [if_neg h2, if_neg (fun e => by
          obtain ⟨e1, e2⟩ := e
          by_cases hj : i = x
          · exact h ⟨hj, e2⟩
          · exact h2 ⟨by omega, e2⟩)]
theorem bviaO_is {n : Nat} (f : Nat → Nat → Bool) : ∀ o, o ≤ n → ∀ x y, x < n → y < n → (bviaO n f o x y = true ↔ Comes (fun a b => f a b = true) o x y)
  | 0, _ => fun _ _ _ _ => Iff.rfl
  | o + 1, ho => fun x y hx hy => by
    have ih := bviaO_is (n := n) f o (by omega)
    rw [bviaO, bviaX_at, if_pos ⟨hx, hy⟩]
    show _ ↔ (Comes _ o x y ∨ (Comes _ o x o ∧ Comes _ o o y))
    rw [Bool.or_eq_true, Bool.and_eq_true, ih x y hx hy, ih x o hx (by omega), ih o y (by omega) hy]
/-- a step that is not lost -/
def notLost (ps : List Pile) (x y : Nat) : Bool := decide (pref ps y x ≤ pref ps x y)
def reachF (ps : List Pile) (n : Nat) : Nat → Nat → Bool := bviaO n (notLost ps) n
/-- whether one of the top -/
def isTop (ps : List Pile) (n x : Nat) : Bool := allTo (reachF ps n x) n
def tops (ps : List Pile) (n : Nat) : List Int := picks (isTop ps n) n
theorem reach_iff (ps : List Pile) {n x y : Nat} (hx : x < n) (hy : y < n) : reachF ps n x y = true ↔ Comes (fun a b => notLost ps a b = true) n x y := bviaO_is (notLost ps) n (Nat.le_refl _) x y hx hy
theorem reach_trans (ps : List Pile) {n x y z : Nat} (hx : x < n) (hy : y < n) (hz : z < n) (h1 : reachF ps n x y = true) (h2 : reachF ps n y z = true) : reachF ps n x z = true :=
  (reach_iff ps hx hz).2 (Comes.trans hy ((reach_iff ps hx hy).1 h1) ((reach_iff ps hy hz).1 h2))
theorem reach_one (ps : List Pile) {n x y : Nat} (hx : x < n) (hy : y < n) (h : pref ps y x ≤ pref ps x y) : reachF ps n x y = true :=
  (reach_iff ps hx hy).2 (Comes.one (by show decide _ = true; exact decide_eq_true h) n)
theorem reach_or (ps : List Pile) {n x y : Nat} (hx : x < n) (hy : y < n) : reachF ps n x y = true ∨ reachF ps n y x = true := by
  by_cases h : pref ps y x ≤ pref ps x y
  · exact .inl (reach_one ps hx hy h)
  · exact .inr (reach_one ps hy hx (by omega))
theorem top_iff (ps : List Pile) (n x : Nat) : isTop ps n x = true ↔ ∀ y, y < n → reachF ps n x y = true := allTo_iff _ _
/-- somebody reaches the first k -/
theorem top_some (ps : List Pile) {n : Nat} : ∀ k, k < n → ∃ x, x < n ∧ ∀ y, y ≤ k → reachF ps n x y = true
  | 0, h => ⟨0, h, fun y hy => by
    obtain rfl : y = 0 := by omega
    exact reach_one ps h h (Int.le_refl _)⟩
  | k + 1, h => by
    obtain ⟨x, hx, hr⟩ := top_some ps (n := n) k (by omega)
    rcases reach_or ps hx h with h1 | h1
    · refine ⟨x, hx, fun y hy => ?_⟩
      by_cases e : y = k + 1
      · subst e; exact h1
      · exact hr y (by omega)
    · refine ⟨k + 1, h, fun y hy => ?_⟩
      by_cases e : y = k + 1
      · subst e; exact reach_one ps h h (Int.le_refl _)
      · exact reach_trans ps h hx (by omega) h1 (hr y (by omega))
theorem top_is (ps : List Pile) {n : Nat} (hn : 1 ≤ n) : ∃ x, x < n ∧ isTop ps n x = true := by
  obtain ⟨x, hx, h⟩ := top_some ps (n := n) (n - 1) (by omega)
  exact ⟨x, hx, (top_iff ps n x).2 fun y hy => h y (by omega)⟩
/-- each one of the top is preferred to each other one -/
theorem top_beats (ps : List Pile) {n x y : Nat} (hx : x < n) (hy : y < n) (h1 : isTop ps n x = true) (h2 : isTop ps n y = false) : pref ps y x < pref ps x y := by
  by_cases h : pref ps x y ≤ pref ps y x
  · exfalso
    have : isTop ps n y = true := (top_iff ps n y).2 fun z hz => reach_trans ps hy hx hz (reach_one ps hy hx h) ((top_iff ps n x).1 h1 z hz)
    rw [h2] at this
    cases this
  · omega
/-- whoever beats all others holds the top -/
theorem top_least (ps : List Pile) {n : Nat} (D : Nat → Bool) (d : Nat) (hd : d < n) (hD : D d = true) (hb : ∀ x y, x < n → y < n → D x = true → D y = false → pref ps y x < pref ps x y) (x : Nat) (hx : x < n) (h : isTop ps n x = true) : D x = true := by
  cases hDx : D x
  · exfalso
    have hr := (reach_iff ps hx hd).1 ((top_iff ps n x).1 h d hd)
    have := Comes.closed (n := n) (P := fun z => D z = false) (fun a b ha hb' hpa hab => by
      cases hDb : D b
      · rfl
      · exfalso
        have h1 := hb b a hb' ha hDb hpa
        have h2 : pref ps b a ≤ pref ps a b := of_decide_eq_true hab
        omega) (Nat.le_refl n) hx hd hDx hr
    rw [hD] at this
    cases this
  · rfl
/-- the best ones are some of the top -/
theorem best_top' (ps : List Pile) {n : Nat} (hv : psval ps = true) {x : Nat} (hx : x < n) (hb : isBest (pathF ps n) n x = true) : isTop ps n x = true := by
  cases ht : isTop ps n x
  · exfalso
    obtain ⟨s, hs, hst⟩ := top_is ps (n := n) (by omega)
    have hsx := top_beats ps hs hx hst ht
    have hne : s ≠ x := fun e => by subst e; rw [hst] at ht; cases ht
    have h1 := path_direct hv hs hx hne hsx
    have h0 := (pref_bd (ps := ps) (x : Int) (s : Int) hv).1
    have h2 := of_decide_eq_true ((allTo_iff _ _).1 hb s hs)
    have h3 := (path_iff hv (t := 1) (by omega) hx hs (Ne.symm hne)).1 (by omega)
    have := Comes.closed (n := n) (P := fun z => isTop ps n z = false) (fun a b ha hb' hpa hab => by
      cases hDb : isTop ps n b
      · rfl
      · exfalso
        have h4 := top_beats ps hb' ha hDb hpa
        have h5 := (dir_is (ps := ps) (x := a) (y := b) (by omega)).1
        omega) (Nat.le_refl n) hx hs ht h3
    rw [hst] at this
    cases this
  · rfl
end Go.Proofs.Ytdcfpobjiofnmaa.Bp
