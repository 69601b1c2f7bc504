/-
  Plain laws of pluralities and depths. No program in sight.
-/
import Derived.Test.YtdcfpobjiofnmaaFirstPlain
namespace Go.Proofs.Ytdcfpobjiofnmaa.Bp
set_option linter.unusedVariables false
open Go

/-- does x come ahead of y? -/
def bef (l : List Int) (x y : Int) : Bool := firstOf (fun z => z == x || z == y) l == x && x != y
theorem lval_inj {lots : List Int} (h : lval lots = true) {i j : Nat} (hi : i < lots.length) (hj : j < lots.length) (e : lots.getD i 0 = lots.getD j 0) : i = j := by
  have hn := ((bval_iff _ _).1 h).2.2
  rw [getD_get _ _ hi, getD_get _ _ hj] at e
  rw [List.nodup_iff_pairwise_ne, List.pairwise_iff_getElem] at hn
  rcases Nat.lt_trichotomy i j with h1 | h1 | h1
  · exact absurd e (hn i j hi hj h1)
  · exact h1
  · exact absurd e.symm (hn j i hj hi h1)
theorem bef_at {lots : List Int} (h : lval lots = true) {i p : Nat} (hi : i < lots.length) (hp : p < lots.length) : bef lots (lots.getD i 0) (lots.getD p 0) = decide (i < p) := by
  unfold bef
  have hne : ∀ {a b : Nat}, a < lots.length → b < lots.length → a ≠ b → (lots.getD a 0 == lots.getD b 0) = false := fun ha hb hab => by
    rw [beq_eq_false_iff_ne]
    exact fun e => hab (lval_inj h ha hb e)
  rcases Nat.lt_trichotomy i p with h1 | h1 | h1
  · rw [firstOf_found _ lots i hi (by simp) (fun j hj => by rw [hne (by omega) hi (by omega), hne (by omega) hp (by omega)]; rfl)]
    rw [decide_eq_true h1, beq_self_eq_true, Bool.true_and, bne, hne hi hp (by omega)]
    rfl
  · subst h1
    rw [decide_eq_false (Nat.lt_irrefl _), bne, beq_self_eq_true]
    simp
  · rw [firstOf_found _ lots p hp (by simp) (fun j hj => by rw [hne (by omega) hi (by omega), hne (by omega) hp (by omega)]; rfl)]
    rw [hne hp hi (by omega), decide_eq_false (by omega)]
    rfl
/-- some other candidate is so many behind -/
def someTo (counts : List Int) (b m : Int) (s : Bool) : Nat → Bool
  | 0 => s
  | k + 1 => someTo counts b m s k || (((k : Int) != b) && (counts.getD b.toNat 0 - counts.getD k 0 == m))
theorem someTo_mono (counts : List Int) (b m : Int) (s : Bool) : ∀ k j : Nat, j < k → (((j : Int) != b) && (counts.getD b.toNat 0 - counts.getD j 0 == m)) = true → someTo counts b m s k = true
  | 0, j, h, _ => absurd h (by omega)
  | k + 1, j, h, hj => by
    rw [someTo]
    by_cases e : j = k
    · subst e; rw [hj, Bool.or_true]
    · rw [someTo_mono counts b m s k j (by omega) hj, Bool.true_or]
theorem someTo_start (counts : List Int) (b m : Int) : ∀ k, someTo counts b m true k = true
  | 0 => rfl
  | k + 1 => by rw [someTo, someTo_start counts b m k, Bool.true_or]
theorem nextTo_ge (counts : List Int) (b : Int) : ∀ k j : Nat, j < k → (j : Int) ≠ b → counts.getD j 0 ≤ nextTo counts b k
  | 0, j, h, _ => absurd h (by omega)
  | k + 1, j, h, hj => by
    rw [nextTo]
    by_cases e : j = k
    · subst e; rw [if_neg hj]; omega
    · have := nextTo_ge counts b k j (by omega) hj
      split <;> omega
theorem nextTo_is (counts : List Int) (b : Int) : ∀ k, nextTo counts b k = 0 ∨ ∃ j : Nat, j < k ∧ (j : Int) ≠ b ∧ nextTo counts b k = counts.getD j 0
  | 0 => .inl rfl
  | k + 1 => by
    rw [nextTo]
    split
    · rcases nextTo_is counts b k with h | ⟨j, hj, h1, h2⟩
      · exact .inl h
      · exact .inr ⟨j, by omega, h1, h2⟩
    · next hk =>
      by_cases hm : nextTo counts b k ≤ counts.getD k 0
      · exact .inr ⟨k, by omega, hk, by omega⟩
      · rcases nextTo_is counts b k with h | ⟨j, hj, h1, h2⟩
        · exact .inl (by omega)
        · exact .inr ⟨j, by omega, h1, by omega⟩
/-- the law of the margin: somebody is just so many behind -/
theorem some_end (counts : List Int) (b : Int) (q : Int) (h : Bd counts q) (hb0 : 0 ≤ b) (hb1 : b < counts.length) :
    someTo counts b (counts.getD b.toNat 0 - nextTo counts b counts.length) (decide (counts.length = 1) && (counts.getD b.toNat 0 - nextTo counts b counts.length == counts.getD b.toNat 0)) counts.length = true := by
  by_cases h1 : counts.length = 1
  · have e : nextTo counts b counts.length = 0 := by
      rw [h1]
      have : ((0 : Nat) : Int) = b := by omega
      rw [nextTo, if_pos this]; rfl
    rw [e, decide_eq_true h1]
    simp only [Int.sub_zero, beq_self_eq_true, Bool.true_and]
    exact someTo_start _ _ _ _
  · rcases nextTo_is counts b counts.length with h2 | ⟨j, hj, h2, h3⟩
    · obtain ⟨j, hj, hjb⟩ : ∃ j : Nat, j < counts.length ∧ (j : Int) ≠ b := by
        by_cases hz : b = 0
        · exact ⟨1, by omega, by omega⟩
        · exact ⟨0, by omega, by omega⟩
      have h4 := nextTo_ge counts b counts.length j hj hjb
      have h5 := (h j).1
      refine someTo_mono _ _ _ _ _ j hj ?_
      simp only [Bool.and_eq_true, bne_iff_ne, beq_iff_eq]
      exact ⟨hjb, by omega⟩
    · refine someTo_mono _ _ _ _ _ j hj ?_
      simp only [Bool.and_eq_true, bne_iff_ne, beq_iff_eq]
      exact ⟨h2, by omega⟩
/-- the greatest of the first k numbers, or 0 (maxTo of the runoff, here again) -/
def topN (l : List Int) : Nat → Int
  | 0 => 0
  | k + 1 => max (topN l k) (l.getD k 0)
theorem topN_ge (l : List Int) : ∀ k j, j < k → l.getD j 0 ≤ topN l k
  | 0, j, h => absurd h (by omega)
  | k + 1, j, h => by
    rw [topN]
    by_cases hj : j = k
    · subst hj; omega
    · have := topN_ge l k j (by omega); omega
theorem topN_is (l : List Int) : ∀ k, topN l k = 0 ∨ ∃ j, j < k ∧ topN l k = l.getD j 0
  | 0 => .inl rfl
  | k + 1 => by
    rw [topN]
    by_cases h : topN l k ≤ l.getD k 0
    · exact .inr ⟨k, by omega, by omega⟩
    · rcases topN_is l k with h1 | ⟨j, hj, h1⟩
      · exact .inl (by omega)
      · exact .inr ⟨j, by omega, by omega⟩
theorem topN_bd {l : List Int} {q : Int} (h : Bd l q) (k : Nat) : 0 ≤ topN l k ∧ topN l k ≤ q := by
  have h0 := h 0
  rcases topN_is l k with e | ⟨j, _, e⟩
  · omega
  · have := h j; omega
theorem best_top (counts lots : List Int) (q : Int) (hl : lval lots = true) (hc : counts.length = lots.length) (h : Bd counts q) : counts.getD (best counts lots).toNat 0 = topN counts counts.length := by
  have hn := lval_n hl
  obtain ⟨p, hp, he, h1, _⟩ := best_spec counts lots (by omega)
  have hr := lval_at hl p hp
  have h2 := topN_ge counts counts.length (lots.getD p 0).toNat (by omega)
  rw [he]
  rcases topN_is counts counts.length with e | ⟨j, hj, e⟩
  · have := (h (lots.getD p 0).toNat).1; omega
  · obtain ⟨i, hi, e2⟩ := List.getElem_of_mem (lval_all hl j (by omega))
    have h3 := h1 i hi
    rw [getD_get _ _ hi, e2, Int.toNat_natCast] at h3
    omega
/-- the first depth with a majority: the depth ahead has none -/
theorem dep_range (ps : List Pile) (n : Nat) (hn : 1 ≤ n) : 1 ≤ dep ps n ∧ dep ps n ≤ n := by
  unfold dep
  cases h : (List.range n).find? fun d => over (counted (ptsDepth ((d + 1 : Nat) : Int)) ps n) (psum ps) n with
  | none => simp; omega
  | some d =>
    have := List.find?_some h
    have h2 := List.mem_of_find?_eq_some h
    rw [List.mem_range] at h2
    simp; omega
theorem dep_less (ps : List Pile) (n : Nat) (j : Nat) (h1 : 1 ≤ j) (h2 : j < dep ps n) : over (counted (ptsDepth (j : Int)) ps n) (psum ps) n = false := by
  unfold dep at h2
  cases h : (List.range n).find? fun d => over (counted (ptsDepth ((d + 1 : Nat) : Int)) ps n) (psum ps) n with
  | none =>
    rw [h] at h2
    have h2' : j < n := by simpa using h2
    rw [List.find?_range_eq_none] at h
    have := h (j - 1) (by omega)
    rw [show j - 1 + 1 = j by omega] at this
    simpa using this
  | some d =>
    rw [h] at h2
    rw [List.find?_range_eq_some] at h
    have := h.2.2 (j - 1) (by simp at h2; omega)
    rw [show j - 1 + 1 = j by omega] at this
    simpa using this
theorem top_over (counts : List Int) (t : Int) (n : Nat) (ht : 0 ≤ t) (ho : over counts t n = false) : 2 * topN counts n ≤ t := by
  rw [over_no] at ho
  rcases topN_is counts n with e | ⟨j, hj, e⟩
  · omega
  · have := ho j hj; omega
theorem bump_id (l : List Int) (c : Nat) : bump l c 0 = l := bump_zero l c
theorem countTo_none (ps : List Pile) (n : Nat) : ∀ k, countTo (ptsDepth 0) ps n k = List.replicate n 0
  | 0 => rfl
  | k + 1 => by
    rw [countTo, addTo_none _ _ _ _ _ (fun i _ => by unfold ptsDepth; rw [if_neg (by omega)]), countTo_none ps n k]
theorem topN_zero (n k : Nat) : topN (List.replicate n 0) k = 0 := by
  induction k with
  | zero => rfl
  | succ k ih =>
    rw [topN, ih]
    by_cases h : k < n
    · simp [List.getD, h]
    · simp [List.getD, h]
/-- the first places are the first preferences, where nobody has left -/
theorem countTo_first (ps : List Pile) (n : Nat) (hf : fits ps n = true) : ∀ k, k ≤ ps.length → countTo (ptsDepth 1) ps n k = firstTo ps (List.replicate n false) k
  | 0, _ => by simp [countTo, firstTo]
  | k + 1, hk => by
    have ih := countTo_first ps n hf k (by omega)
    rw [countTo, firstTo, ih]
    have hv := fits_at hf k (by omega)
    cases hb : bal (ps.getD k default).1 with
    | nil =>
      have e : bfirst [] (List.replicate n false) = -1 := rfl
      rw [e, if_neg (by omega)]
      rfl
    | cons c r =>
      rw [hb] at hv
      have hc := ((bval_iff _ _).1 hv).2.1 c (List.mem_cons_self ..)
      have e : bfirst (c :: r) (List.replicate n false) = c := by
        have h0 : (List.replicate n false).getD c.toNat false = false := by
          by_cases h : c.toNat < n
          · simp [List.getD, h]
          · simp [List.getD, h]
        have := bfirst_found (c :: r) (List.replicate n false) 0 (by simp) (by show (List.replicate n false).getD c.toNat false = false; exact h0) (fun j hj => absurd hj (by omega))
        exact this
      rw [e, if_pos hc.1]
      have h1 := addTo_tail (ptsDepth 1) (ps.getD k default).2 (c :: r) (firstTo ps (List.replicate n false) k) 1 (fun j hj => by unfold ptsDepth; rw [if_neg (by omega)]) r.length
      rw [show (c :: r).length = 1 + r.length by simp; omega, h1]
      show bump (addTo _ _ _ _ 0) c.toNat ((ps.getD k default).2 * ptsDepth 1 0 _) = _
      unfold ptsDepth
      rw [if_pos (by omega), Int.mul_one]
      rfl
theorem counted_first (ps : List Pile) (n : Nat) (hf : fits ps n = true) : counted (ptsDepth ((1 : Nat) : Int)) ps n = firsts ps (List.replicate n false) := countTo_first ps n hf ps.length (Nat.le_refl _)
end Go.Proofs.Ytdcfpobjiofnmaa.Bp
