/-
  Plain facts on winners of pairs: who beats all others is the whole top. No program in sight.
-/
import Derived.Test.YtdcfpobjiofnmaaTopPlain
namespace Go.Proofs.Ytdcfpobjiofnmaa.Bp
set_option linter.unusedVariables false
open Go

theorem picks_one (p : Nat → Bool) (x : Nat) : ∀ k, (∀ j, j < k → p j = (j == x)) → picks p k = if x < k then [(x : Int)] else []
  | 0, _ => by rw [if_neg (by omega)]; rfl
  | k + 1, h => by
    have ih := picks_one p x k (fun j hj => h j (by omega))
    rw [picks, ih, h k (by omega)]
    by_cases e : k = x
    · subst e
      rw [show (k == k) = true by simp, if_pos rfl, if_neg (by omega), if_pos (by omega)]
      rfl
    · rw [show (k == x) = false by simpa using e, if_neg (by simp)]
      by_cases hx : x < k
      · rw [if_pos hx, if_pos (by omega)]
      · rw [if_neg hx, if_neg (by omega)]
theorem picks_all_len : ∀ k, (picks (fun _ => true) k).length = k
  | 0 => rfl
  | k + 1 => by rw [picks, if_pos rfl, List.length_append, picks_all_len k]; rfl
theorem picks_all_at : ∀ k j, j < k → (picks (fun _ => true) k).getD j 0 = j
  | 0, j, h => absurd h (by omega)
  | k + 1, j, h => by
    rw [picks, if_pos rfl]
    by_cases e : j < k
    · have := picks_all_at k j e
      have hl : j < (picks (fun _ => true) k).length := by rw [picks_all_len]; exact e
      have e2 : (picks (fun _ => true) k ++ [(k : Int)]).getD j 0 = (picks (fun _ => true) k).getD j 0 := by simp [List.getD, List.getElem?_append_left hl]
      rw [e2, this]
    · obtain rfl : j = k := by omega
      have hl := picks_all_len j
      have : (picks (fun _ => true) j ++ [(j : Int)])[j]? = some (j : Int) := by rw [List.getElem?_append_right (by omega), hl]; simp
      simp [List.getD, this]
/-- whether one is preferred to all others -/
def winsB (ps : List Pile) (n x : Nat) : Bool := allTo (fun y => (y == x) || decide (pref ps y x < pref ps x y)) n
theorem wins_iff (ps : List Pile) (n x : Nat) : winsB ps n x = true ↔ ∀ y, y < n → y ≠ x → pref ps y x < pref ps x y := by
  unfold winsB
  rw [allTo_iff]
  constructor
  · intro h y hy hne
    have := h y hy
    rw [show (y == x) = false by simpa using hne, Bool.false_or] at this
    exact of_decide_eq_true this
  · intro h y hy
    by_cases e : y = x
    · simp [e]
    · rw [decide_eq_true (h y hy e), Bool.or_true]
theorem wins_tops (ps : List Pile) {n x : Nat} (hx : x < n) (h : winsB ps n x = true) : tops ps n = [(x : Int)] := by
  have hw := (wins_iff ps n x).1 h
  have hone : ∀ j, j < n → isTop ps n j = true → j = x := fun j hj ht => by
    have := top_least ps (n := n) (fun z => z == x) x hx (by simp) (fun a b ha hb h1 h2 => by
      have e1 : a = x := by simpa using h1
      have e2 : b ≠ x := by simpa using h2
      subst e1
      exact hw b hb e2) j hj ht
    simpa using this
  obtain ⟨t, ht, htt⟩ := top_is ps (n := n) (by omega)
  have etx := hone t ht htt
  subst etx
  unfold tops
  rw [picks_one (isTop ps n) t n (fun j hj => by
    by_cases e : j = t
    · subst e; rw [htt]; simp
    · rw [show (j == t) = false by simpa using e]
      cases h1 : isTop ps n j
      · rfl
      · exact absurd (hone j hj h1) e), if_pos hx]
theorem tops_wins (ps : List Pile) {n : Nat} {z : Int} (h : tops ps n = [z]) : ∃ x : Nat, x < n ∧ z = x ∧ winsB ps n x = true := by
  obtain ⟨x, hx, e, ht⟩ := (picks_mem (isTop ps n) z n).1 (by show z ∈ tops ps n; rw [h]; simp)
  refine ⟨x, hx, e, (wins_iff ps n x).2 fun y hy hne => top_beats ps hx hy ht ?_⟩
  cases hty : isTop ps n y
  · rfl
  · exfalso
    have : (y : Int) ∈ tops ps n := (picks_mem (isTop ps n) y n).2 ⟨y, hy, rfl, hty⟩
    rw [h, e] at this
    simp at this
    omega
/-- the winner of pairs, or -1 -/
def pairWin (ps : List Pile) (n : Nat) : Int := if (tops ps n).length = 1 then (tops ps n).getD 0 0 else -1
theorem pairWin_yes (ps : List Pile) {n x : Nat} (hx : x < n) (h : winsB ps n x = true) : pairWin ps n = x := by
  unfold pairWin
  rw [wins_tops ps hx h]
  rfl
theorem len_one {l : List Int} (h : l.length = 1) : ∃ z, l = [z] ∧ l.getD 0 0 = z := by
  match l, h with
  | [z], _ => exact ⟨z, rfl, rfl⟩
theorem pairWin_no (ps : List Pile) {n : Nat} (h : ∀ x, x < n → winsB ps n x = false) : pairWin ps n = -1 := by
  unfold pairWin
  by_cases hl : (tops ps n).length = 1
  · exfalso
    obtain ⟨z, hz, _⟩ := len_one hl
    obtain ⟨x, hx, _, hw⟩ := tops_wins ps hz
    rw [h x hx] at hw
    cases hw
  · rw [if_neg hl]
theorem pairWin_cases (ps : List Pile) (n : Nat) : (∃ x : Nat, x < n ∧ pairWin ps n = x ∧ winsB ps n x = true ∧ tops ps n = [(x : Int)]) ∨ (pairWin ps n = -1 ∧ ∀ x, x < n → winsB ps n x = false) := by
  by_cases h : ∃ x, x < n ∧ winsB ps n x = true
  · obtain ⟨x, hx, hw⟩ := h
    exact .inl ⟨x, hx, pairWin_yes ps hx hw, hw, wins_tops ps hx hw⟩
  · have hno : ∀ x, x < n → winsB ps n x = false := fun x hx => by
      cases hw : winsB ps n x
      · rfl
      · exact absurd ⟨x, hx, hw⟩ h
    exact .inr ⟨pairWin_no ps hno, hno⟩
/-- the winner is the only best one -/
theorem win_best (ps : List Pile) {n x : Nat} (hv : psval ps = true) (hx : x < n) (h : winsB ps n x = true) : bests ps n = [(x : Int)] := by
  have hw := (wins_iff ps n x).1 h
  have htop : ∀ j, j < n → isTop ps n j = true → j = x := fun j hj ht => by
    have : (j : Int) ∈ tops ps n := (picks_mem (isTop ps n) j n).2 ⟨j, hj, rfl, ht⟩
    rw [wins_tops ps hx h] at this
    simp at this
    omega
  have hbx : isBest (pathF ps n) n x = true := (allTo_iff _ _).2 fun j hj => by
    apply decide_eq_true
    by_cases e : j = x
    · subst e; exact Int.le_refl _
    · have h0 : pathF ps n j x = 0 := by
        by_cases hz : pathF ps n j x = 0
        · exact hz
        · exfalso
          have hp := path_pos (n := n) hv j x
          have h3 := (path_iff hv (t := 1) (by omega) hj hx e).1 (by omega)
          have := Comes.closed (n := n) (P := fun z => z ≠ x) (fun a b ha hb' hpa hab => fun eb => by
            subst eb
            have h4 := hw a ha hpa
            have h5 := (dir_is (ps := ps) (x := a) (y := b) (by omega)).1
            omega) (Nat.le_refl n) hj hx e h3
          exact this rfl
      rw [h0]
      exact path_pos hv x j
  unfold bests
  rw [picks_one (isBest (pathF ps n) n) x n (fun j hj => by
    by_cases e : j = x
    · subst e; rw [hbx]; simp
    · rw [show (j == x) = false by simpa using e]
      cases h1 : isBest (pathF ps n) n j
      · rfl
      · exact absurd (htop j hj (best_top' ps hv hj h1)) e), if_pos hx]
end Go.Proofs.Ytdcfpobjiofnmaa.Bp
