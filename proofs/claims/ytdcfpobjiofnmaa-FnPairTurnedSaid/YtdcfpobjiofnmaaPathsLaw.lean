/-
  Plain facts behind the laws of paths: the strengths are those of strongest paths. No program in sight.
-/
import Derived.Test.YtdcfpobjiofnmaaPathsPlain
import Derived.Test.YtdcfpobjiofnmaaPairLawPlain
namespace Go.Proofs.Ytdcfpobjiofnmaa.Bp
set_option linter.unusedVariables false
open Go

theorem max_same (a b : Int) (ha : 0 ≤ a) : max a (min a 0) = a ∧ max b (min 0 b) = max b (min 0 b) := ⟨by omega, rfl⟩
theorem viaY_at (o x : Nat) (f : Nat → Nat → Int) (h0 : f o o = 0) (hp : ∀ i j, 0 ≤ f i j) : ∀ (y i j : Nat), viaY o x f y i j = if i = x ∧ j < y ∧ x ≠ j then max (f x j) (min (f x o) (f o j)) else f i j
  | 0, i, j => by rw [viaY, if_neg (by omega)]
  | y + 1, i, j => by
    have ih := viaY_at o x f h0 hp y
    rw [viaY]
    unfold via
    by_cases h : i = x ∧ j = y ∧ x ≠ y
    · obtain ⟨rfl, rfl, hxy⟩ := h
      rw [if_pos ⟨rfl, rfl, hxy⟩, if_pos ⟨rfl, by omega, hxy⟩, ih i j, if_neg (by omega), ih i o, ih o j, if_neg (show ¬ (o = i ∧ j < j ∧ i ≠ j) by omega)]
      have e : (if i = i ∧ o < j ∧ i ≠ o then max (f i o) (min (f i o) (f o o)) else f i o) = f i o := by
        split
        · rw [h0]; have := hp i o; omega
        · rfl
      rw [e]
    · rw [if_neg h, ih i j]
      by_cases h2 : i = x ∧ j < y ∧ x ≠ j
      · rw [if_pos h2, if_pos ⟨h2.1, by omega, h2.2.2⟩]
      · rw [if_neg h2, if_neg (fun e => by
          obtain ⟨e1, e2, e3⟩ := e
          by_cases hj : j = y
          · exact h ⟨e1, hj, by omega⟩
          · exact h2 ⟨e1, by omega, e3⟩)]
theorem viaX_at (n o : Nat) (f : Nat → Nat → Int) (h0 : f o o = 0) (hp : ∀ i j, 0 ≤ f i j) : ∀ (x i j : Nat), viaX n o f x i j = if i < x ∧ j < n ∧ i ≠ j then max (f i j) (min (f i o) (f o j)) else f i j
  | 0, i, j => by rw [viaX, if_neg (by omega)]
  | x + 1, i, j => by
    have ih := viaX_at n o f h0 hp x
    have g0 : viaX n o f x o o = 0 := by rw [ih, if_neg (by omega), h0]
    have gp : ∀ i j, 0 ≤ viaX n o f x i j := fun i j => by
      rw [ih]
      split
      · have := hp i j; omega
      · exact hp i j
    rw [viaX, viaY_at o x _ g0 gp n i j]
    by_cases h : i = x ∧ j < n ∧ x ≠ j
    · obtain ⟨rfl, hj, hne⟩ := h
      rw [if_pos ⟨rfl, hj, hne⟩, if_pos ⟨by omega, hj, hne⟩, ih i j, if_neg (by omega), ih i o, if_neg (by omega), ih o j]
      have e : (if o < i ∧ j < n ∧ o ≠ j then max (f o j) (min (f o o) (f o j)) else f o j) = f o j := by
        split
        · rw [h0]; have := hp o j; omega
        · rfl
      rw [e]
    · rw [if_neg h, ih i j]
      by_cases h2 : i < x ∧ j < n ∧ i ≠ j
      · rw [if_pos h2, if_pos ⟨by omega, h2.2⟩]
      · rw [if_neg h2, if_neg (fun e => by
          obtain ⟨e1, e2, e3⟩ := e
          by_cases hj : i = x
          · exact h ⟨hj, e2, by omega⟩
          · exact h2 ⟨by omega, e2, e3⟩)]
/-- whether one comes from x to y by steps of E over the first j -/
def Comes (E : Nat → Nat → Prop) : Nat → Nat → Nat → Prop
  | 0, x, y => E x y
  | j + 1, x, y => Comes E j x y ∨ (Comes E j x j ∧ Comes E j j y)
theorem Comes.mono {E : Nat → Nat → Prop} {x y : Nat} : ∀ {j k : Nat}, j ≤ k → Comes E j x y → Comes E k x y
  | j, 0, h, hc => by obtain rfl : j = 0 := by omega
                      exact hc
  | j, k + 1, h, hc => by
    by_cases e : j = k + 1
    · subst e; exact hc
    · exact .inl (Comes.mono (show j ≤ k by omega) hc)
theorem Comes.trans {E : Nat → Nat → Prop} : ∀ {j k x z : Nat}, k < j → Comes E j x k → Comes E j k z → Comes E j x z
  | 0, _, _, _, h, _, _ => absurd h (by omega)
  | j + 1, k, x, z, h, h1, h2 => by
    by_cases e : k = j
    · subst e
      have a : Comes E k x k := by rcases h1 with h1 | h1; exact h1; exact h1.1
      have b : Comes E k k z := by rcases h2 with h2 | h2; exact h2; exact h2.2
      exact .inr ⟨a, b⟩
    · have hk : k < j := by omega
      rcases h1 with a | ⟨a1, a2⟩
      · rcases h2 with b | ⟨b1, b2⟩
        · exact .inl (Comes.trans hk a b)
        · exact .inr ⟨Comes.trans hk a b1, b2⟩
      · rcases h2 with b | ⟨b1, b2⟩
        · exact .inr ⟨a1, Comes.trans hk a2 b⟩
        · exact .inr ⟨a1, b2⟩
theorem Comes.step {E : Nat → Nat → Prop} {n : Nat} : ∀ {j x y : Nat}, j ≤ n → Comes E j x y → E x y ∨ ∃ k, k < n ∧ E x k ∧ Comes E n k y
  | 0, _, _, _, h => .inl h
  | j + 1, x, y, hj, h => by
    rcases h with h | ⟨h1, h2⟩
    · exact Comes.step (by omega) h
    · rcases Comes.step (n := n) (by omega) h1 with h3 | ⟨k, hk, h3, h4⟩
      · exact .inr ⟨j, by omega, h3, Comes.mono (by omega) h2⟩
      · exact .inr ⟨k, hk, h3, Comes.trans (show j < n by omega) h4 (Comes.mono (by omega) h2)⟩
theorem Comes.one {E : Nat → Nat → Prop} {x y : Nat} (h : E x y) (n : Nat) : Comes E n x y := Comes.mono (Nat.zero_le n) (show Comes E 0 x y from h)
/-- what is closed under steps is closed under ways -/
theorem Comes.closed {E : Nat → Nat → Prop} {n : Nat} {P : Nat → Prop} (hE : ∀ x y, x < n → y < n → P x → E x y → P y) : ∀ {j x y : Nat}, j ≤ n → x < n → y < n → P x → Comes E j x y → P y
  | 0, x, y, _, hx, hy, hp, h => hE x y hx hy hp h
  | j + 1, x, y, hj, hx, hy, hp, h => by
    rcases h with h | ⟨h1, h2⟩
    · exact Comes.closed hE (by omega) hx hy hp h
    · exact Comes.closed hE (by omega) (show j < n by omega) hy (Comes.closed hE (by omega) hx (by omega) hp h1) h2
theorem viaO_is {n : Nat} {f : Nat → Nat → Int} (h0 : ∀ i, f i i = 0) (hp : ∀ i j, 0 ≤ f i j) : ∀ o, o ≤ n →
    (∀ i, viaO n f o i i = 0) ∧ (∀ i j, 0 ≤ viaO n f o i j) ∧ ∀ t : Int, 0 < t → ∀ x y, x < n → y < n → x ≠ y → (t ≤ viaO n f o x y ↔ Comes (fun a b => t ≤ f a b) o x y)
  | 0, _ => ⟨h0, hp, fun t _ x y _ _ _ => Iff.rfl⟩
  | o + 1, ho => by
    obtain ⟨i1, i2, i3⟩ := viaO_is (n := n) h0 hp o (by omega)
    have hat := viaX_at n o (viaO n f o) (i1 o) i2 n
    refine ⟨fun i => ?_, fun i j => ?_, fun t ht x y hx hy hxy => ?_⟩
    · rw [viaO, hat, if_neg (by omega)]; exact i1 i
    · rw [viaO, hat]
      split
      · have := i2 i j; omega
      · exact i2 i j
    · rw [viaO, hat, if_pos ⟨hx, hy, hxy⟩]
      have a := i3 t ht x y hx hy hxy
      show _ ↔ (Comes _ o x y ∨ (Comes _ o x o ∧ Comes _ o o y))
      have key : t ≤ max (viaO n f o x y) (min (viaO n f o x o) (viaO n f o o y)) ↔ t ≤ viaO n f o x y ∨ (t ≤ viaO n f o x o ∧ t ≤ viaO n f o o y) := by omega
      rw [key, a]
      by_cases hxo : x = o
      · subst hxo
        constructor
        · rintro (h | ⟨h1, h2⟩)
          · exact .inl h
          · rw [i1 x] at h1; omega
        · rintro (h | ⟨h1, h2⟩)
          · exact .inl h
          · exact .inl h2
      · by_cases hyo : y = o
        · subst hyo
          constructor
          · rintro (h | ⟨h1, h2⟩)
            · exact .inl h
            · rw [i1 y] at h2; omega
          · rintro (h | ⟨h1, h2⟩)
            · exact .inl h
            · exact .inl h1
        · rw [i3 t ht x o hx (by omega) hxo, i3 t ht o y (by omega) hy (Ne.symm hyo)]
theorem dir_self (ps : List Pile) (x : Nat) : dir ps x x = 0 := by
  unfold dir
  rw [if_neg (by omega)]
theorem dir_pos {ps : List Pile} (hv : psval ps = true) (x y : Nat) : 0 ≤ dir ps x y := by
  unfold dir
  split
  · exact (pref_bd _ _ hv).1
  · exact Int.le_refl _
theorem dir_is {ps : List Pile} {x y : Nat} (h : 0 < dir ps x y) : pref ps y x < pref ps x y ∧ dir ps x y = pref ps x y := by
  unfold dir at *
  split at h
  · next h1 => exact ⟨h1, by rw [if_pos h1]⟩
  · exact absurd h (by omega)
section
variable {ps : List Pile} {n : Nat} (hv : psval ps = true)
include hv
theorem path_pos (x y : Nat) : 0 ≤ pathF ps n x y := (viaO_is (dir_self ps) (dir_pos hv) n (Nat.le_refl _)).2.1 x y
theorem path_self (x : Nat) : pathF ps n x x = 0 := (viaO_is (dir_self ps) (dir_pos hv) n (Nat.le_refl _)).1 x
theorem path_iff {t : Int} (ht : 0 < t) {x y : Nat} (hx : x < n) (hy : y < n) (hxy : x ≠ y) : t ≤ pathF ps n x y ↔ Comes (fun a b => t ≤ dir ps a b) n x y := (viaO_is (dir_self ps) (dir_pos hv) n (Nat.le_refl _)).2.2 t ht x y hx hy hxy
theorem path_direct {x y : Nat} (hx : x < n) (hy : y < n) (hxy : x ≠ y) (h : pref ps y x < pref ps x y) : pref ps x y ≤ pathF ps n x y := by
  have hd : dir ps x y = pref ps x y := by unfold dir; rw [if_pos h]
  have hp := (pref_bd (ps := ps) (y : Int) (x : Int) hv).1
  refine (path_iff hv (by omega) hx hy hxy).2 (Comes.one ?_ n)
  show _ ≤ _
  omega
theorem path_tri {x y k : Nat} (hx : x < n) (hy : y < n) (hk : k < n) (hxy : x ≠ y) (hkx : k ≠ x) (hky : k ≠ y) : min (pathF ps n x k) (pathF ps n k y) ≤ pathF ps n x y := by
  have h0 := path_pos (n := n) hv x y
  by_cases ht : 0 < min (pathF ps n x k) (pathF ps n k y)
  · refine (path_iff hv ht hx hy hxy).2 (Comes.trans hk ((path_iff hv ht hx hk (Ne.symm hkx)).1 (by omega)) ((path_iff hv ht hk hy hky).1 (by omega)))
  · omega
theorem path_step {x y : Nat} (hx : x < n) (hy : y < n) : pathF ps n x y = 0 ∨ (pref ps y x < pref ps x y ∧ pref ps x y = pathF ps n x y) ∨
    ∃ k, k < n ∧ k ≠ x ∧ k ≠ y ∧ pref ps k x < pref ps x k ∧ pathF ps n x y ≤ pref ps x k ∧ pathF ps n x y ≤ pathF ps n k y := by
  have h0 := path_pos (n := n) hv x y
  by_cases hz : pathF ps n x y = 0
  · exact .inl hz
  have ht : 0 < pathF ps n x y := by omega
  have hxy : x ≠ y := fun e => by subst e; exact hz (path_self hv x)
  have hone : ∀ k, k = y → pathF ps n x y ≤ dir ps x k → pref ps y x < pref ps x y ∧ pref ps x y = pathF ps n x y := fun k hk h1 => by
    subst hk
    obtain ⟨h2, h3⟩ := dir_is (ps := ps) (x := x) (y := k) (by omega)
    have := path_direct hv hx hy hxy h2
    exact ⟨h2, by omega⟩
  rcases Comes.step (n := n) (Nat.le_refl _) ((path_iff hv ht hx hy hxy).1 (Int.le_refl _)) with h1 | ⟨k, hk, h1, h2⟩
  · exact .inr (.inl (hone y rfl h1))
  · have hkx : k ≠ x := fun e => by subst e; rw [dir_self] at h1; omega
    by_cases hky : k = y
    · exact .inr (.inl (hone k hky h1))
    · obtain ⟨h3, h4⟩ := dir_is (ps := ps) (x := x) (y := k) (by omega)
      exact .inr (.inr ⟨k, hk, hkx, hky, h3, by omega, (path_iff hv ht hk hy hky).2 h2⟩)
end
end Go.Proofs.Ytdcfpobjiofnmaa.Bp
