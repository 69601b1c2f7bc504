/-
  Plain facts on counts by places: they are sums of preferences; a winner of pairs is not the last one. No program in sight.
-/
import Derived.Test.YtgcihnhljeahjaaPairLawPlain
import Derived.Test.YtgcihnhljeahjaaWinPlain
namespace Go.Proofs.Ytgcihnhljeahjaa.Bp
set_option linter.unusedVariables false
open Go

def sumN (f : Nat → Int) : Nat → Int
  | 0 => 0
  | n + 1 => sumN f n + f n
theorem sumN_congr {f g : Nat → Int} : ∀ n, (∀ j, j < n → f j = g j) → sumN f n = sumN g n
  | 0, _ => rfl
  | n + 1, h => by rw [sumN, sumN, sumN_congr n (fun j hj => h j (by omega)), h n (by omega)]
theorem sumN_add (f g : Nat → Int) : ∀ n, sumN (fun j => f j + g j) n = sumN f n + sumN g n
  | 0 => rfl
  | n + 1 => by rw [sumN, sumN, sumN, sumN_add f g n]; omega
theorem sumN_mul (c : Int) (f : Nat → Int) : ∀ n, sumN (fun j => c * f j) n = c * sumN f n
  | 0 => by simp [sumN]
  | n + 1 => by rw [sumN, sumN, sumN_mul c f n, Int.mul_add]
theorem sumN_const (c : Int) : ∀ n : Nat, sumN (fun _ => c) n = c * n
  | 0 => by simp [sumN]
  | n + 1 => by rw [sumN, sumN_const c n, Int.natCast_succ, Int.mul_add, Int.mul_one]
theorem sumN_le {f g : Nat → Int} : ∀ n, (∀ j, j < n → f j ≤ g j) → sumN f n ≤ sumN g n
  | 0, _ => Int.le_refl _
  | n + 1, h => by
    have := sumN_le n (fun j hj => h j (by omega))
    have := h n (by omega)
    rw [sumN, sumN]
    omega
theorem sumN_zero : ∀ n, sumN (fun _ => 0) n = 0
  | 0 => rfl
  | n + 1 => by rw [sumN, sumN_zero n]; rfl
theorem sumN_swap (f : Nat → Nat → Int) (m : Nat) : ∀ n, sumN (fun x => sumN (f x) m) n = sumN (fun y => sumN (fun x => f x y) n) m
  | 0 => by show 0 = sumN (fun _ => 0) m; rw [sumN_zero]
  | n + 1 => by
    rw [sumN, sumN_swap f m n, ← sumN_add]
    exact sumN_congr m fun y _ => rfl
theorem sumN_single (f : Nat → Int) {k : Nat} : ∀ n, k < n → (∀ j, j < n → j ≠ k → f j = 0) → sumN f n = f k
  | 0, h, _ => absurd h (by omega)
  | n + 1, h, h0 => by
    rw [sumN]
    by_cases e : k = n
    · subst e
      rw [sumN_congr (g := fun _ => 0) k (fun j hj => h0 j (by omega) (by omega)), sumN_zero]
      omega
    · rw [sumN_single f n (by omega) (fun j hj hne => h0 j (by omega) hne), h0 n (by omega) (Ne.symm e)]
      omega
theorem sumN_none (f : Nat → Int) (n : Nat) (h : ∀ j, j < n → f j = 0) : sumN f n = 0 := by rw [sumN_congr n h]; exact sumN_zero n
/-- how often y stands on the first k places of a ballot -/
def occ (b : List Int) (k : Nat) (y : Int) : Int := sumN (fun j => if b.getD j 0 = y then 1 else 0) k
theorem occ_sum (b : List Int) (n k : Nat) (h : ∀ j, j < k → 0 ≤ b.getD j 0 ∧ b.getD j 0 < n) : sumN (fun y => occ b k (y : Int)) n = k := by
  unfold occ
  rw [sumN_swap (fun y j => if b.getD j 0 = (y : Int) then 1 else 0) k n, sumN_congr (g := fun _ => 1) k (fun j hj => ?_), sumN_const, Int.one_mul]
  obtain ⟨c, hc⟩ := Int.eq_ofNat_of_zero_le (h j hj).1
  have hcn := (h j hj).2
  rw [sumN_single (k := c) _ n (by omega) (fun y _ hne => by rw [if_neg (by omega)])]
  rw [if_pos hc]
theorem occ_none (b : List Int) (k : Nat) (y : Int) (h : ∀ j, j < k → b.getD j 0 ≠ y) : occ b k y = 0 := sumN_none _ _ fun j hj => if_neg (h j hj)
theorem occ_one (b : List Int) (k : Nat) (y : Int) (hd : ∀ i j, i < k → j < k → b.getD i 0 = b.getD j 0 → i = j) {p : Nat} (hp : p < k) (h : b.getD p 0 = y) : occ b k y = 1 := by
  unfold occ
  rw [sumN_single (k := p) _ k hp (fun j hj hne => if_neg (fun e => hne (hd j p hj hp (e.trans h.symm)))), if_pos h]
theorem bval_at {b : List Int} {n : Int} (h : bval b n = true) {j : Nat} (hj : j < b.length) : 0 ≤ b.getD j 0 ∧ b.getD j 0 < n := by
  have hb := (bval_iff b n).1 h
  have e : b.getD j 0 = b[j] := by simp [List.getD, hj]
  rw [e]
  exact hb.2.1 _ (List.getElem_mem hj)
theorem bval_inj {b : List Int} {n : Int} (h : bval b n = true) {i j : Nat} (hi : i < b.length) (hj : j < b.length) (e : b.getD i 0 = b.getD j 0) : i = j := by
  have hb := (bval_iff b n).1 h
  have e1 : b.getD i 0 = b[i] := by simp [List.getD, hi]
  have e2 : b.getD j 0 = b[j] := by simp [List.getD, hj]
  rw [e1, e2] at e
  exact (List.getElem_inj hb.2.2).1 e
/-- over how many a ballot prefers one -/
def gain (b : List Int) (n : Nat) (p : Int) : Int := sumN (fun y => if prefers b p (y : Int) then 1 else 0) n
theorem gain_none (b : List Int) (n : Nat) (p : Int) (h : ∀ j, j < b.length → b.getD j 0 ≠ p) : gain b n p = 0 := sumN_none _ _ fun y _ => by rw [prefers_none h]; rfl
theorem gain_at {b : List Int} {n : Nat} (hv : bval b (n : Int) = true) {k : Nat} (hk : k < b.length) : gain b n (b.getD k 0) = (n : Int) - (k + 1 : Nat) := by
  have hs := occ_sum b n (k + 1) (fun j hj => bval_at hv (by omega))
  have h1 : sumN (fun y => (if prefers b (b.getD k 0) (y : Int) then 1 else 0) + occ b (k + 1) (y : Int)) n = sumN (fun _ => 1) n := by
    refine sumN_congr n fun y hy => ?_
    rcases least_of (fun j => b.getD j 0 = (y : Int)) (fun j => by by_cases h : b.getD j 0 = (y : Int); exact .inl h; exact .inr h) (k + 1) with h | ⟨p, hp, h1, h2⟩
    · rw [occ_none b (k + 1) y h, prefers_x hk (fun e => h k (by omega) e) rfl (fun j hj => ⟨fun e => by have := bval_inj hv (by omega) hk e; omega, h j (by omega)⟩)]
      rfl
    · rw [occ_one b (k + 1) y (fun i j hi hj e => bval_inj hv (by omega) (by omega) e) hp h1]
      have : prefers b (b.getD k 0) (y : Int) = false := by
        by_cases e : b.getD k 0 = (y : Int)
        · exact prefers_self b e
        · have hpk : p < k := by
            rcases Nat.lt_or_ge p k with h | h
            · exact h
            · have : p = k := by omega
              subst this
              exact absurd h1 e
          exact prefers_y (by omega) e h1 (fun j hj => ⟨fun e2 => by have := bval_inj hv (by omega) hk e2; omega, h2 j hj⟩)
      rw [this]
      rfl
  rw [sumN_add, sumN_const, hs, Int.one_mul] at h1
  unfold gain
  omega
theorem addTo_sum (pts : Nat → Nat → Int) (m : Int) (b acc : List Int) (p : Nat) (hp : p < acc.length) : ∀ j, (∀ i, i < j → 0 ≤ b.getD i 0) → (addTo pts m b acc j).getD p 0 = acc.getD p 0 + sumN (fun i => if b.getD i 0 = (p : Int) then m * pts i b.length else 0) j
  | 0, _ => by rw [addTo, sumN]; omega
  | j + 1, h => by
    have ih := addTo_sum pts m b acc p hp j (fun i hi => h i (by omega))
    have hb := h j (by omega)
    rw [addTo, bump_at _ _ _ _ (by rw [addTo_len]; exact hp), ih, sumN]
    by_cases e : b.getD j 0 = (p : Int)
    · rw [if_pos (by omega), if_pos e]; omega
    · rw [if_neg (by omega), if_neg e]; omega
theorem place_gain {b : List Int} {n : Nat} (hv : bval b (n : Int) = true) (m : Int) (p : Nat) : sumN (fun i => if b.getD i 0 = (p : Int) then m * ptsPlace n i b.length else 0) b.length = m * gain b n p := by
  have hn := ((bval_iff b n).1 hv).1
  rcases least_of (fun j => b.getD j 0 = (p : Int)) (fun j => by by_cases h : b.getD j 0 = (p : Int); exact .inl h; exact .inr h) b.length with h | ⟨k, hk, h1, _⟩
  · rw [gain_none b n p h, Int.mul_zero]
    exact sumN_none _ _ fun j hj => if_neg (h j hj)
  · have hg := gain_at hv hk
    rw [h1] at hg
    rw [hg, sumN_single (k := k) _ _ hk (fun j hj hne => if_neg (fun e => hne (bval_inj hv hj hk (e.trans h1.symm)))), if_pos h1]
    have hlen : b.length ≤ n := by
      have := occ_sum b n b.length (fun j hj => bval_at hv hj)
      have h2 : sumN (fun y => occ b b.length (y : Int)) n ≤ sumN (fun _ => 1) n := sumN_le n fun y _ => by
        rcases least_of (fun j => b.getD j 0 = (y : Int)) (fun j => by by_cases h : b.getD j 0 = (y : Int); exact .inl h; exact .inr h) b.length with h | ⟨q, hq, h3, _⟩
        · rw [occ_none b _ _ h]; omega
        · rw [occ_one b _ _ (fun i j hi hj e => bval_inj hv hi hj e) hq h3]; omega
      rw [sumN_const] at h2
      omega
    unfold ptsPlace
    rw [if_pos (by omega), if_pos (by omega)]
    congr 1
    omega
theorem countTo_pref {ps : List Pile} {n : Nat} (hf : fits ps (n : Int) = true) {p : Nat} (hp : p < n) : ∀ k, k ≤ ps.length → (countTo (ptsPlace n) ps n k).getD p 0 = sumN (fun y => prefTo ps p y k) n
  | 0, _ => by
    rw [countTo, show sumN (fun y => prefTo ps p y 0) n = 0 from sumN_none _ _ (fun _ _ => rfl)]
    simp [List.getD, hp]
  | k + 1, hk => by
    have ih := countTo_pref hf hp k (by omega)
    have hv := fits_at hf k (by omega)
    obtain ⟨b, hb⟩ : ∃ b, bal (ps.getD k default).1 = b := ⟨_, rfl⟩
    obtain ⟨m, hm⟩ : ∃ m, (ps.getD k default).2 = m := ⟨_, rfl⟩
    rw [countTo, hb, hm]
    rw [hb] at hv
    rw [addTo_sum _ _ _ _ p (by rw [countTo_len]; exact hp) _ (fun i hi => (bval_at hv hi).1), ih, place_gain hv]
    unfold gain
    rw [← sumN_mul, ← sumN_add]
    refine sumN_congr n fun y _ => ?_
    rw [prefTo, hb, hm]
    cases prefers b (p : Int) (y : Int)
    · rw [if_neg (by simp), if_neg (by simp)]; omega
    · rw [if_pos rfl, if_pos rfl]; omega
theorem counted_pref {ps : List Pile} {n : Nat} (hf : fits ps (n : Int) = true) {p : Nat} (hp : p < n) : (counted (ptsPlace n) ps n).getD p 0 = sumN (fun y => pref ps p y) n := countTo_pref hf hp ps.length (Nat.le_refl _)
theorem sumN_else (c : Int) {w n : Nat} (hw : w < n) : sumN (fun y => if y = w then 0 else c) n = c * ((n : Int) - 1) := by
  have h : sumN (fun y => (if y = w then 0 else c) + (if y = w then c else 0)) n = sumN (fun _ => c) n := sumN_congr n fun y _ => by split <;> omega
  rw [sumN_add, sumN_const, sumN_single (k := w) (fun y => if y = w then c else 0) n hw (fun j _ hne => if_neg hne), if_pos rfl] at h
  rw [Int.mul_sub, Int.mul_one]
  omega
/-- a ballot of all candidates names each one -/
theorem full_names {b : List Int} {n w : Nat} (hv : bval b (n : Int) = true) (hl : b.length = n) (hw : w < n) : ∃ j, j < b.length ∧ b.getD j 0 = (w : Int) := by
  rcases least_of (fun j => b.getD j 0 = (w : Int)) (fun j => by by_cases h : b.getD j 0 = (w : Int); exact .inl h; exact .inr h) b.length with h | ⟨k, hk, h1, _⟩
  · exfalso
    have h1 := occ_sum b n b.length (fun j hj => bval_at hv hj)
    have h2 : sumN (fun y => occ b b.length (y : Int)) n ≤ sumN (fun y => if y = w then 0 else 1) n := sumN_le n fun y _ => by
      by_cases e : y = w
      · subst e
        rw [occ_none b _ _ h, if_pos rfl]; omega
      · rw [if_neg e]
        rcases least_of (fun j => b.getD j 0 = (y : Int)) (fun j => by by_cases h : b.getD j 0 = (y : Int); exact .inl h; exact .inr h) b.length with h | ⟨q, hq, h3, _⟩
        · rw [occ_none b _ _ h]; omega
        · rw [occ_one b _ _ (fun i j hi hj e => bval_inj hv hi hj e) hq h3]; omega
    rw [sumN_else 1 hw] at h2
    omega
  · exact ⟨k, hk, h1⟩
theorem named_prefers {b : List Int} {x y : Int} (hxy : x ≠ y) (h : ∃ j, j < b.length ∧ b.getD j 0 = x) : prefers b x y = true ∨ prefers b y x = true := by
  rw [prefers_ne b hxy, prefers_ne b (Ne.symm hxy)]
  rcases idx_cases b x with ⟨_, h1⟩ | ⟨p, _, h1, h2, _⟩
  · obtain ⟨j, hj, e⟩ := h
    exact absurd e (h1 j hj)
  · rcases idx_cases b y with ⟨h3, _⟩ | ⟨q, _, h3, h4, _⟩
    · rw [h1, h3]; simp
    · rw [h1, h3]
      rcases Nat.lt_trichotomy p q with h | h | h
      · left; simp; omega
      · subst h
        exact absurd (h2.symm.trans h4) hxy
      · right; simp; omega
theorem prefTo_full {ps : List Pile} {n : Nat} (hf : fits ps (n : Int) = true) (hall : ∀ k, k < ps.length → (bal (ps.getD k default).1).length = n) {x y : Nat} (hx : x < n) (hxy : x ≠ y) : ∀ k, k ≤ ps.length → sumTo ps k ≤ prefTo ps x y k + prefTo ps y x k
  | 0, _ => by simp [prefTo, sumTo]
  | k + 1, hk => by
    have ih := prefTo_full hf hall hx hxy k (by omega)
    have hm := fits_many_at hf k (by omega)
    have hnm := full_names (fits_at hf k (by omega)) (hall k (by omega)) hx
    rw [prefTo, prefTo, sumTo]
    rcases named_prefers (x := (x : Int)) (y := (y : Int)) (by omega) hnm with h | h
    · rw [h, if_pos rfl]; split <;> omega
    · rw [h, if_pos rfl]; split <;> omega
/-- where all ballots are full, a winner of pairs is not the last one by places -/
theorem place_beats {ps : List Pile} {n w : Nat} (hf : fits ps (n : Int) = true) (hn : 2 ≤ n) (hall : ∀ k, k < ps.length → (bal (ps.getD k default).1).length = n) (hw : w < n) (hwin : winsB ps n w = true) :
    ∃ i, i < n ∧ (counted (ptsPlace n) ps n).getD i 0 < (counted (ptsPlace n) ps n).getD w 0 := by
  apply Classical.byContradiction
  intro hcon
  have hv := fits_val hf
  have hn5 := (fits_n hf).2
  have hge : ∀ i, i < n → (counted (ptsPlace n) ps n).getD w 0 ≤ (counted (ptsPlace n) ps n).getD i 0 := fun i hi => by
    rcases Int.lt_or_le ((counted (ptsPlace n) ps n).getD i 0) ((counted (ptsPlace n) ps n).getD w 0) with h | h
    · exact absurd ⟨i, hi, h⟩ hcon
    · exact h
  have hwins := (wins_iff ps n w).1 hwin
  obtain ⟨T, hT⟩ : ∃ T, psum ps = T := ⟨_, rfl⟩
  obtain ⟨C, hC⟩ : ∃ C, (counted (ptsPlace n) ps n).getD w 0 = C := ⟨_, rfl⟩
  -- twice the winner's count
  have h2 : (T + 1) * ((n : Int) - 1) ≤ C + C := by
    rw [← hC, counted_pref hf hw, ← sumN_add, ← sumN_else (T + 1) hw]
    refine sumN_le n fun y hy => ?_
    by_cases e : y = w
    · subst e
      rw [if_pos rfl, pref_self]; omega
    · rw [if_neg e]
      have h3 := hwins y hy e
      have h4 := prefTo_full hf hall (x := w) (y := y) hw (Ne.symm e) ps.length (Nat.le_refl _)
      have h5 : psum ps ≤ pref ps w y + pref ps y w := h4
      omega
  -- twice all counts
  have h3 : sumN (fun _ => C) n ≤ sumN (fun x => sumN (fun y => pref ps x y) n) n := sumN_le n fun x hx => by
    have := hge x hx
    rw [hC, counted_pref hf hx] at this
    exact this
  have h4 : sumN (fun x => sumN (fun y => pref ps x y) n) n + sumN (fun x => sumN (fun y => pref ps x y) n) n ≤ T * ((n : Int) - 1) * n := by
    have e1 := sumN_swap (fun x y => pref ps (x : Int) (y : Int)) n n
    have e2 : sumN (fun x => sumN (fun y => pref ps x y) n) n + sumN (fun x => sumN (fun y => pref ps y x) n) n ≤ T * ((n : Int) - 1) * n := by
      rw [← sumN_add, ← sumN_const]
      refine sumN_le n fun x hx => ?_
      rw [← sumN_add, ← sumN_else T hx]
      refine sumN_le n fun y hy => ?_
      by_cases e : y = x
      · subst e
        rw [if_pos rfl, pref_self]; omega
      · rw [if_neg e]
        have := pref_sum (x : Int) (y : Int) hv
        omega
    rw [← e1] at e2
    exact e2
  rw [sumN_const] at h3
  obtain ⟨S, hS⟩ : ∃ S, sumN (fun x => sumN (fun y => pref ps x y) n) n = S := ⟨_, rfl⟩
  rw [hS] at h3 h4
  have hcases : n = 2 ∨ n = 3 ∨ n = 4 ∨ n = 5 := by omega
  rcases hcases with rfl | rfl | rfl | rfl <;> omega
/-- is p true below k? -/
def anyTo (p : Nat → Bool) : Nat → Bool
  | 0 => false
  | k + 1 => anyTo p k || p k
theorem anyTo_of (p : Nat → Bool) : ∀ k j, j < k → p j = true → anyTo p k = true
  | 0, _, h, _ => absurd h (by omega)
  | k + 1, j, h, hp => by
    rw [anyTo]
    by_cases e : j = k
    · subst e; rw [hp]; simp
    · rw [anyTo_of p k j (by omega) hp]; rfl
theorem bal_full {ps : List Pile} {n : Int} (hf : fits ps n = true) {k : Nat} (hk : k < ps.length) : (bal (ps.getD k default).1).length = (ps.getD k default).1.size := by
  have h1 := (pval_iff _).1 (psval_at ps (fits_val hf) k hk)
  rw [bal_yes _ h1.1, parse_len]
end Go.Proofs.Ytgcihnhljeahjaa.Bp
