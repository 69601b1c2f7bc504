/-
  The plain law of parts: the first preferences of two parts of a list of piles add up. No program in sight.
-/
import Derived.Test.YtdcfpobjiofnmaaFirstPlain
namespace Go.Proofs.Ytdcfpobjiofnmaa.Bp
set_option linter.unusedVariables false
open Go

theorem take_getD (ps : List Pile) (k j : Nat) (h : j < k) : (ps.take k).getD j default = ps.getD j default := by simp [List.getD, h]
theorem drop_getD (ps : List Pile) (k j : Nat) : (ps.drop k).getD j default = ps.getD (k + j) default := by simp [List.getD]
theorem fits_take {ps : List Pile} {n : Int} (h : fits ps n = true) (k : Nat) : fits (ps.take k) n = true := by
  obtain ⟨h1, h2, h3⟩ := (fits_iff _ _).1 h
  obtain ⟨h4, h5⟩ := (psval_iff _).1 h2
  have hlen : (ps.take k).length ≤ ps.length := by rw [List.length_take]; omega
  refine fits_true _ _ h1 (psval_true _ (by omega) fun j hj => ?_) fun j hj => ?_
  · have hjk : j < k := by rw [List.length_take] at hj; omega
    have := h5 j (by omega)
    unfold POk at *
    rw [take_getD _ _ _ hjk, take_getD _ _ _ (by omega)]
    exact this
  · have hjk : j < k := by rw [List.length_take] at hj; omega
    rw [take_getD _ _ _ hjk]
    exact h3 j (by omega)
theorem fits_drop {ps : List Pile} {n : Int} (h : fits ps n = true) (k : Nat) : fits (ps.drop k) n = true := by
  obtain ⟨h1, h2, h3⟩ := (fits_iff _ _).1 h
  obtain ⟨h4, h5⟩ := (psval_iff _).1 h2
  refine fits_true _ _ h1 (psval_true _ (by rw [List.length_drop]; omega) fun j hj => ?_) fun j hj => ?_
  · rw [List.length_drop] at hj
    have := h5 (k + j) (by omega)
    unfold POk at *
    rw [drop_getD, drop_getD]
    refine ⟨this.1, fun hj0 => ?_⟩
    have h6 := this.2 (by omega)
    rw [show k + (j - 1) = k + j - 1 by omega]
    exact h6
  · rw [List.length_drop] at hj
    rw [drop_getD]
    exact h3 (k + j) (by omega)
theorem firstTo_take (ps : List Pile) (left : List Bool) (k : Nat) : ∀ j, j ≤ k → firstTo (ps.take k) left j = firstTo ps left j
  | 0, _ => rfl
  | j + 1, h => by
    rw [firstTo, firstTo, take_getD _ _ _ (by omega), firstTo_take ps left k j (by omega)]
theorem bump_out (l : List Int) (c : Nat) (v : Int) (i : Nat) : (bump l c v).getD i 0 = if i = c ∧ i < l.length then l.getD i 0 + v else l.getD i 0 := by
  by_cases h : i < l.length
  · rw [bump_at l c v i h]
    by_cases h2 : i = c
    · rw [if_pos h2, if_pos ⟨h2, h⟩]
    · rw [if_neg h2, if_neg (fun x => h2 x.1)]
  · rw [if_neg (fun x => h x.2)]
    have h1 : (bump l c v).getD i 0 = 0 := by simp [List.getD, List.getElem?_eq_none (show (bump l c v).length ≤ i by rw [bump_len]; omega)]
    have h2 : l.getD i 0 = 0 := by simp [List.getD, List.getElem?_eq_none (show l.length ≤ i by omega)]
    rw [h1, h2]
theorem firstTo_drop (ps : List Pile) (left : List Bool) (k i : Nat) : ∀ j, (firstTo ps left (k + j)).getD i 0 = (firstTo ps left k).getD i 0 + (firstTo (ps.drop k) left j).getD i 0
  | 0 => by
    have : (firstTo (ps.drop k) left 0).getD i 0 = 0 := by
      rw [firstTo]
      by_cases h : i < left.length
      · simp [List.getD, h]
      · simp [List.getD, h]
    rw [this]; simp
  | j + 1 => by
    have ih := firstTo_drop ps left k i j
    rw [show k + (j + 1) = (k + j) + 1 by omega, firstTo, firstTo, drop_getD]
    split
    · rw [bump_out, bump_out, firstTo_len, firstTo_len]
      split <;> omega
    · exact ih
/-- the counts of parts add up -/
theorem firsts_parts (ps : List Pile) (left : List Bool) (k i : Nat) (hk : k ≤ ps.length) : (firsts ps left).getD i 0 = (firsts (ps.take k) left).getD i 0 + (firsts (ps.drop k) left).getD i 0 := by
  unfold firsts
  have e1 : (ps.take k).length = k := by rw [List.length_take]; omega
  rw [e1, firstTo_take ps left k k (Nat.le_refl _), List.length_drop]
  have := firstTo_drop ps left k i (ps.length - k)
  rw [show k + (ps.length - k) = ps.length by omega] at this
  exact this
end Go.Proofs.Ytdcfpobjiofnmaa.Bp
