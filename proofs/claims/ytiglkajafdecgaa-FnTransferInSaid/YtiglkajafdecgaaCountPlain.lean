/-
  Plain words for counts by places: points for the places on the ballots, summed up for each candidate. No program in sight.
-/
import Derived.Test.YtiglkajafdecgaaBallotPlain
namespace Go.Proofs.Ytiglkajafdecgaa.Bp
set_option linter.unusedVariables false
open Go

/-- v more at place c -/
def bump (l : List Int) (c : Nat) (v : Int) : List Int := l.set c (l.getD c 0 + v)
theorem bump_len (l : List Int) (c : Nat) (v : Int) : (bump l c v).length = l.length := by simp [bump]
theorem bump_zero (l : List Int) (c : Nat) : bump l c 0 = l := by
  unfold bump
  rw [Int.add_zero]
  apply List.ext_getElem (by simp)
  intro j h1 h2
  rw [List.getElem_set]
  split
  · next h => subst h; simp [List.getD, h2]
  · rfl
theorem bump_at (l : List Int) (c : Nat) (v : Int) (j : Nat) (hj : j < l.length) : (bump l c v).getD j 0 = if j = c then l.getD j 0 + v else l.getD j 0 := by
  unfold bump
  by_cases h : j = c
  · subst h; simp [List.getD, hj]
  · rw [if_neg h]
    simp [List.getD, Ne.symm h]
/-- the points of the first j places of a ballot of m voters -/
def addTo (pts : Nat → Nat → Int) (m : Int) (b : List Int) (acc : List Int) : Nat → List Int
  | 0 => acc
  | j + 1 => bump (addTo pts m b acc j) (b.getD j 0).toNat (m * pts j b.length)
/-- the points of the first k piles -/
def countTo (pts : Nat → Nat → Int) (ps : List Pile) (n : Nat) : Nat → List Int
  | 0 => List.replicate n 0
  | k + 1 => addTo pts (ps.getD k default).2 (bal (ps.getD k default).1) (countTo pts ps n k) (bal (ps.getD k default).1).length
def counted (pts : Nat → Nat → Int) (ps : List Pile) (n : Nat) : List Int := countTo pts ps n ps.length
theorem addTo_len (pts : Nat → Nat → Int) (m : Int) (b acc : List Int) : ∀ j, (addTo pts m b acc j).length = acc.length
  | 0 => rfl
  | j + 1 => by rw [addTo, bump_len, addTo_len pts m b acc j]
theorem countTo_len (pts : Nat → Nat → Int) (ps : List Pile) (n : Nat) : ∀ k, (countTo pts ps n k).length = n
  | 0 => by simp [countTo]
  | k + 1 => by rw [countTo, addTo_len, countTo_len pts ps n k]
/-- all numbers lie between 0 and a bound -/
def Bd (l : List Int) (q : Int) : Prop := ∀ j, 0 ≤ l.getD j 0 ∧ l.getD j 0 ≤ q
theorem Bd.mono {l : List Int} {q q' : Int} (h : Bd l q) (hq : q ≤ q') : Bd l q' := fun j => ⟨(h j).1, by have := (h j).2; omega⟩
theorem Bd.zero (n : Nat) : Bd (List.replicate n 0) 0 := fun j => by
  by_cases h : j < n
  · simp [List.getD, h]
  · simp [List.getD, h]
theorem Bd.bump {l : List Int} {q v d : Int} (h : Bd l q) (c : Nat) (h0 : 0 ≤ v) (h1 : v ≤ d) (hq : 0 ≤ q) : Bd (bump l c v) (q + d) := fun j => by
  by_cases hj : j < l.length
  · rw [bump_at l c v j hj]
    have := h j
    split <;> omega
  · have : (Bp.bump l c v).getD j 0 = 0 := by simp [List.getD, List.getElem?_eq_none (show (Bp.bump l c v).length ≤ j by rw [bump_len]; omega)]
    rw [this]
    omega
theorem addTo_bd {pts : Nat → Nat → Int} {m : Int} {b acc : List Int} {q : Int} (h : Bd acc q) (hq : 0 ≤ q) (hm0 : 0 ≤ m) (hm : m ≤ 99) (hp : ∀ j k, 0 ≤ pts j k ∧ pts j k ≤ 5) : ∀ j, Bd (addTo pts m b acc j) (q + 495 * j)
  | 0 => by simpa [addTo] using h
  | j + 1 => by
    have ih := addTo_bd (b := b) h hq hm0 hm hp j
    have hpj := hp j b.length
    have h1 : 0 ≤ m * pts j b.length := Int.mul_nonneg hm0 hpj.1
    have h2 : m * pts j b.length ≤ 99 * 5 := Int.mul_le_mul hm hpj.2 hpj.1 (by omega)
    have := ih.bump (b.getD j 0).toNat h1 (d := 495) (by omega) (by omega)
    exact this.mono (by omega)
theorem countTo_bd {pts : Nat → Nat → Int} {ps : List Pile} {n : Nat} (hv : psval ps = true) (hp : ∀ j k, 0 ≤ pts j k ∧ pts j k ≤ 5) : ∀ k, k ≤ ps.length → Bd (countTo pts ps n k) (2475 * k)
  | 0, _ => by simpa [countTo] using Bd.zero n
  | k + 1, hk => by
    have ih := countTo_bd (n := n) hv hp k (by omega)
    have h1 := (pval_iff _).1 (psval_at ps hv k (by omega))
    have h2 := bal_len (ps.getD k default).1
    have := addTo_bd (b := bal (ps.getD k default).1) ih (by omega) (by have := h1.2.1; omega) h1.2.2 hp (bal (ps.getD k default).1).length
    exact this.mono (by omega)
theorem Bd.nth {l : List Int} {q : Int} (h : Bd l q) (j : Nat) : 0 ≤ l.getD j 0 ∧ l.getD j 0 ≤ q := h j

/-- points that are nothing beyond some place -/
theorem addTo_tail (pts : Nat → Nat → Int) (m : Int) (b acc : List Int) (d : Nat) (h : ∀ j, d ≤ j → pts j b.length = 0) : ∀ j, addTo pts m b acc (d + j) = addTo pts m b acc d
  | 0 => rfl
  | j + 1 => by
    show bump (addTo pts m b acc (d + j)) _ (m * pts (d + j) b.length) = _
    rw [h (d + j) (by omega), Int.mul_zero, bump_zero, addTo_tail pts m b acc d h j]
theorem addTo_none (pts : Nat → Nat → Int) (m : Int) (b acc : List Int) : ∀ j, (∀ i, i < j → pts i b.length = 0) → addTo pts m b acc j = acc
  | 0, _ => rfl
  | j + 1, h => by
    show bump (addTo pts m b acc j) _ (m * pts j b.length) = _
    rw [h j (by omega), Int.mul_zero, bump_zero, addTo_none pts m b acc j (fun i hi => h i (by omega))]

/-- the three kinds of points -/
def ptsPlace (n : Int) (j _k : Nat) : Int := if (j : Int) < n then (if n ≤ 5 then n - 1 - j else 0) else 0
def ptsDepth (d : Int) (j _k : Nat) : Int := if (j : Int) < d then 1 else 0
def ptsLast (n : Int) (j k : Nat) : Int := if (k : Int) = n ∧ (j : Int) = n - 1 then 1 else 0
theorem ptsPlace_bd (n : Int) (j k : Nat) : 0 ≤ ptsPlace n j k ∧ ptsPlace n j k ≤ 5 := by unfold ptsPlace; split <;> (try split) <;> omega
theorem ptsDepth_bd (d : Int) (j k : Nat) : 0 ≤ ptsDepth d j k ∧ ptsDepth d j k ≤ 5 := by unfold ptsDepth; split <;> omega
theorem ptsLast_bd (n : Int) (j k : Nat) : 0 ≤ ptsLast n j k ∧ ptsLast n j k ≤ 5 := by unfold ptsLast; split <;> omega
theorem fits_at {ps : List Pile} {n : Int} (h : fits ps n = true) (k : Nat) (hk : k < ps.length) : bval (bal (ps.getD k default).1) n = true := ((fits_iff ps n).1 h).2.2 k hk
theorem fits_val {ps : List Pile} {n : Int} (h : fits ps n = true) : psval ps = true := ((fits_iff ps n).1 h).2.1
theorem fits_n {ps : List Pile} {n : Int} (h : fits ps n = true) : 1 ≤ n ∧ n ≤ 5 := (many_iff n).1 ((fits_iff ps n).1 h).1
theorem fits_len {ps : List Pile} {n : Int} (h : fits ps n = true) : ps.length ≤ 12 := ((psval_iff ps).1 (fits_val h)).1
theorem fits_many_at {ps : List Pile} {n : Int} (h : fits ps n = true) (k : Nat) (hk : k < ps.length) : 1 ≤ (ps.getD k default).2 ∧ (ps.getD k default).2 ≤ 99 := by
  have := (pval_iff _).1 (psval_at ps (fits_val h) k hk)
  exact this.2
end Go.Proofs.Ytiglkajafdecgaa.Bp
