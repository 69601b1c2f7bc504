/-
  Plain words for first preferences, lots, the greatest count. No program in sight.
-/
import Derived.Test.YtiglkajafdecgaaCountPlain
namespace Go.Proofs.Ytiglkajafdecgaa.Bp
set_option linter.unusedVariables false
open Go

/-- the first of a list who has a property, or -1 -/
def firstOf (p : Int → Bool) : List Int → Int
  | [] => -1
  | c :: r => if p c then c else firstOf p r
theorem firstOf_found (p : Int → Bool) : ∀ (l : List Int) (k : Nat), k < l.length → p (l.getD k 0) = true → (∀ j, j < k → p (l.getD j 0) = false) → firstOf p l = l.getD k 0
  | [], k, h, _, _ => absurd h (by simp)
  | c :: r, 0, _, hp, _ => by
    have hp' : p c = true := hp
    show (if p c then c else firstOf p r) = c
    rw [hp']; rfl
  | c :: r, k + 1, h, hp, hn => by
    have h0 : p c = false := hn 0 (by omega)
    show (if p c then c else firstOf p r) = _
    rw [h0]
    exact firstOf_found p r k (by simpa using h) hp (fun j hj => hn (j + 1) (by omega))
theorem firstOf_none (p : Int → Bool) : ∀ (l : List Int), (∀ j, j < l.length → p (l.getD j 0) = false) → firstOf p l = -1
  | [], _ => rfl
  | c :: r, hn => by
    have h0 : p c = false := hn 0 (by simp)
    show (if p c then c else firstOf p r) = _
    rw [h0]
    exact firstOf_none p r (fun j hj => hn (j + 1) (by simpa using hj))
theorem firstOf_congr (p q : Int → Bool) : ∀ (l : List Int), (∀ c ∈ l, p c = q c) → firstOf p l = firstOf q l
  | [], _ => rfl
  | c :: r, h => by
    show (if p c then c else firstOf p r) = (if q c then c else firstOf q r)
    rw [h c (List.mem_cons_self ..), firstOf_congr p q r (fun d hd => h d (List.mem_cons_of_mem _ hd))]
theorem firstOf_cases (p : Int → Bool) : ∀ (l : List Int), (firstOf p l = -1 ∧ ∀ c ∈ l, p c = false) ∨ (firstOf p l ∈ l ∧ p (firstOf p l) = true)
  | [] => .inl ⟨rfl, fun c hc => by cases hc⟩
  | c :: r => by
    show ((if p c then c else firstOf p r) = -1 ∧ _) ∨ ((if p c then c else firstOf p r) ∈ _ ∧ p (if p c then c else firstOf p r) = true)
    cases hp : p c
    · rcases firstOf_cases p r with ⟨h1, h2⟩ | ⟨h1, h2⟩
      · refine .inl ⟨h1, fun d hd => ?_⟩
        rcases List.mem_cons.1 hd with rfl | hd
        · exact hp
        · exact h2 d hd
      · exact .inr ⟨List.mem_cons_of_mem _ h1, h2⟩
    · exact .inr ⟨List.mem_cons_self .., hp⟩

/-- the first candidate of a ballot who has not left -/
def bfirst (b : List Int) (left : List Bool) : Int := firstOf (fun c => !left.getD c.toNat false) b
theorem bfirst_found (b : List Int) (left : List Bool) (k : Nat) (hk : k < b.length) (h : left.getD (b.getD k 0).toNat false = false) (hn : ∀ j, j < k → left.getD (b.getD j 0).toNat false = true) : bfirst b left = b.getD k 0 :=
  firstOf_found _ b k hk (by rw [h]; rfl) (fun j hj => by rw [hn j hj]; rfl)
theorem bfirst_none (b : List Int) (left : List Bool) (hn : ∀ j, j < b.length → left.getD (b.getD j 0).toNat false = true) : bfirst b left = -1 :=
  firstOf_none _ b (fun j hj => by rw [hn j hj]; rfl)
theorem bfirst_range (b : List Int) (left : List Bool) (n : Int) (h : bval b n = true) : bfirst b left = -1 ∨ (0 ≤ bfirst b left ∧ bfirst b left < n) := by
  rcases firstOf_cases (fun c => !left.getD c.toNat false) b with ⟨h1, _⟩ | ⟨h1, _⟩
  · exact .inl h1
  · exact .inr (((bval_iff b n).1 h).2.1 _ h1)
/-- the first preferences of the first k piles -/
def firstTo (ps : List Pile) (left : List Bool) : Nat → List Int
  | 0 => List.replicate left.length 0
  | k + 1 => if 0 ≤ bfirst (bal (ps.getD k default).1) left then bump (firstTo ps left k) (bfirst (bal (ps.getD k default).1) left).toNat (ps.getD k default).2 else firstTo ps left k
def firsts (ps : List Pile) (left : List Bool) : List Int := firstTo ps left ps.length
theorem firstTo_len (ps : List Pile) (left : List Bool) : ∀ k, (firstTo ps left k).length = left.length
  | 0 => by simp [firstTo]
  | k + 1 => by
    rw [firstTo]
    split
    · rw [bump_len, firstTo_len ps left k]
    · exact firstTo_len ps left k
theorem firsts_len (ps : List Pile) (left : List Bool) : (firsts ps left).length = left.length := firstTo_len ps left _
theorem firstTo_bd {ps : List Pile} {left : List Bool} (hv : psval ps = true) : ∀ k, k ≤ ps.length → Bd (firstTo ps left k) (99 * k)
  | 0, _ => by simpa [firstTo] using Bd.zero left.length
  | k + 1, hk => by
    have ih := firstTo_bd (left := left) hv k (by omega)
    have h1 := (pval_iff _).1 (psval_at ps hv k (by omega))
    rw [firstTo]
    split
    · exact (ih.bump _ (by have := h1.2.1; omega) h1.2.2 (by omega)).mono (by omega)
    · exact ih.mono (by omega)
theorem firsts_bd {ps : List Pile} {left : List Bool} (hv : psval ps = true) : Bd (firsts ps left) 1188 := by
  have h := firstTo_bd (left := left) hv ps.length (Nat.le_refl _)
  have := ((psval_iff ps).1 hv).1
  exact h.mono (by omega)

/-- the candidate with the greatest count; of several ones the one that comes first in the lots -/
def bestTo (counts lots : List Int) : Nat → Int
  | 0 => lots.getD 0 0
  | k + 1 => if counts.getD (bestTo counts lots k).toNat 0 < counts.getD (lots.getD k 0).toNat 0 then lots.getD k 0 else bestTo counts lots k
def best (counts lots : List Int) : Int := bestTo counts lots lots.length
theorem bestTo_mem (counts lots : List Int) (h : 0 < lots.length) : ∀ k, k ≤ lots.length → bestTo counts lots k ∈ lots
  | 0, _ => getD_mem lots 0 h
  | k + 1, hk => by
    rw [bestTo]
    split
    · exact getD_mem lots k (by omega)
    · exact bestTo_mem counts lots h k (by omega)
theorem best_mem (counts lots : List Int) (h : 0 < lots.length) : best counts lots ∈ lots := bestTo_mem counts lots h _ (Nat.le_refl _)
/-- nobody ahead of place k has more; whoever stands ahead of the best one has less -/
theorem bestTo_spec (counts lots : List Int) (h : 0 < lots.length) : ∀ k, k ≤ lots.length →
    ∃ p, p < lots.length ∧ (p < k ∨ p = 0) ∧ bestTo counts lots k = lots.getD p 0 ∧ (∀ j, j < k → counts.getD (lots.getD j 0).toNat 0 ≤ counts.getD (lots.getD p 0).toNat 0) ∧ (∀ j, j < p → counts.getD (lots.getD j 0).toNat 0 < counts.getD (lots.getD p 0).toNat 0)
  | 0, _ => ⟨0, h, .inr rfl, rfl, fun j hj => absurd hj (by omega), fun j hj => absurd hj (by omega)⟩
  | k + 1, hk => by
    obtain ⟨p, hp, hpk, he, h1, h2⟩ := bestTo_spec counts lots h k (by omega)
    rw [bestTo]
    split
    · next hlt =>
      rw [he] at hlt
      refine ⟨k, by omega, .inl (by omega), rfl, fun j hj => ?_, fun j hj => ?_⟩
      · by_cases hjk : j = k
        · subst hjk; exact Int.le_refl _
        · have := h1 j (by omega); omega
      · have := h1 j hj; omega
    · next hlt =>
      rw [he] at hlt
      refine ⟨p, hp, ?_, he, fun j hj => ?_, h2⟩
      · rcases hpk with hpk | hpk
        · exact .inl (by omega)
        · exact .inl (by omega)
      · by_cases hjk : j = k
        · subst hjk; omega
        · exact h1 j (by omega)
theorem best_spec (counts lots : List Int) (h : 0 < lots.length) :
    ∃ p, p < lots.length ∧ best counts lots = lots.getD p 0 ∧ (∀ j, j < lots.length → counts.getD (lots.getD j 0).toNat 0 ≤ counts.getD (lots.getD p 0).toNat 0) ∧ (∀ j, j < p → counts.getD (lots.getD j 0).toNat 0 < counts.getD (lots.getD p 0).toNat 0) := by
  obtain ⟨p, hp, _, he, h1, h2⟩ := bestTo_spec counts lots h _ (Nat.le_refl _)
  exact ⟨p, hp, he, h1, h2⟩
/-- the first in the lots whose count is the number q, where q is the greatest count -/
theorem best_first (counts lots : List Int) (h : 0 < lots.length) (q : Int) (h1 : ∀ c ∈ lots, counts.getD c.toNat 0 ≤ q) (h2 : ∃ c ∈ lots, counts.getD c.toNat 0 = q) : firstOf (fun c => counts.getD c.toNat 0 == q) lots = best counts lots := by
  obtain ⟨p, hp, he, ha, hb⟩ := best_spec counts lots h
  obtain ⟨c, hc, hq⟩ := h2
  obtain ⟨j, hj, rfl⟩ := List.getElem_of_mem hc
  have e1 : lots[j] = lots.getD j 0 := (getD_get _ _ hj).symm
  rw [e1] at hq
  have h3 := ha j hj
  have h4 := h1 _ (getD_mem lots p hp)
  rw [he]
  refine firstOf_found _ lots p hp (by show (_ == q) = true; rw [beq_iff_eq]; omega) (fun i hi => ?_)
  have := hb i hi
  show (_ == q) = false
  rw [beq_eq_false_iff_ne]
  omega

/-- are these lots? -/
def lval (lots : List Int) : Bool := bval lots lots.length
theorem lval_n {lots : List Int} (h : lval lots = true) : 1 ≤ lots.length ∧ lots.length ≤ 5 := by
  have := ((bval_iff _ _).1 h).1
  omega
theorem lval_range {lots : List Int} (h : lval lots = true) : ∀ c ∈ lots, 0 ≤ c ∧ c < lots.length := ((bval_iff _ _).1 h).2.1
theorem lval_at {lots : List Int} (h : lval lots = true) (k : Nat) (hk : k < lots.length) : 0 ≤ lots.getD k 0 ∧ lots.getD k 0 < lots.length := lval_range h _ (getD_mem lots k hk)
theorem lval_all {lots : List Int} (h : lval lots = true) (c : Nat) (hc : c < lots.length) : (c : Int) ∈ lots := by
  by_cases hm : (c : Int) ∈ lots
  · exact hm
  · have h3 := (bval_iff _ _).1 h
    have := nodup_len lots.length ((c : Int) :: lots) (List.nodup_cons.2 ⟨hm, h3.2.2⟩) (fun d hd => by
      rcases List.mem_cons.1 hd with rfl | hd
      · omega
      · exact h3.2.1 d hd)
    simp at this
    omega

/-- the greatest of some counts, or -1 -/
def mostTo (counts : List Int) (some : List Bool) : Nat → Int
  | 0 => -1
  | k + 1 => if some.getD k false then max (mostTo counts some k) (counts.getD k 0) else mostTo counts some k
theorem mostTo_ge (counts : List Int) (some : List Bool) : ∀ k j, j < k → some.getD j false = true → counts.getD j 0 ≤ mostTo counts some k
  | 0, j, h, _ => absurd h (by omega)
  | k + 1, j, h, hs => by
    rw [mostTo]
    by_cases hj : j = k
    · subst hj; rw [hs]; simp; omega
    · have := mostTo_ge counts some k j (by omega) hs
      split <;> omega
theorem mostTo_is (counts : List Int) (some : List Bool) : ∀ k, mostTo counts some k = -1 ∨ ∃ j, j < k ∧ some.getD j false = true ∧ mostTo counts some k = counts.getD j 0
  | 0 => .inl rfl
  | k + 1 => by
    rw [mostTo]
    split
    · next hs =>
      by_cases hm : mostTo counts some k ≤ counts.getD k 0
      · exact .inr ⟨k, by omega, hs, by omega⟩
      · rcases mostTo_is counts some k with h | ⟨j, hj, h1, h2⟩
        · exact .inl (by omega)
        · exact .inr ⟨j, by omega, h1, by omega⟩
    · rcases mostTo_is counts some k with h | ⟨j, hj, h1, h2⟩
      · exact .inl h
      · exact .inr ⟨j, by omega, h1, h2⟩
theorem mostTo_bd (counts : List Int) (some : List Bool) (q : Int) (h : Bd counts q) : ∀ k, -1 ≤ mostTo counts some k ∧ mostTo counts some k ≤ q := fun k => by
  have h0 := h 0
  rcases mostTo_is counts some k with e | ⟨j, _, _, e⟩
  · omega
  · have := h j; omega
/-- who has the greatest of some counts, up to place k -/
def mostOf (counts : List Int) (some : List Bool) (k : Nat) : List Bool := (List.range k).map fun i => some.getD i false && counts.getD i 0 == mostTo counts some counts.length
theorem mostOf_len (counts : List Int) (some : List Bool) (k : Nat) : (mostOf counts some k).length = k := by simp [mostOf]
theorem mostOf_at (counts : List Int) (some : List Bool) (k i : Nat) (h : i < k) : (mostOf counts some k).getD i false = (some.getD i false && counts.getD i 0 == mostTo counts some counts.length) := by
  simp [mostOf, List.getD, h]
theorem mostOf_succ (counts : List Int) (some : List Bool) (k : Nat) : mostOf counts some (k + 1) = mostOf counts some k ++ [some.getD k false && counts.getD k 0 == mostTo counts some counts.length] := by
  unfold mostOf
  rw [List.range_succ, List.map_append]
  rfl
/-- the first candidate of lots who is one of some, or -1 -/
def lfirst (lots : List Int) (some : List Bool) : Int := firstOf (fun c => some.getD c.toNat false) lots
theorem lfirst_found (lots : List Int) (some : List Bool) (k : Nat) (hk : k < lots.length) (hp : some.getD (lots.getD k 0).toNat false = true) (hn : ∀ j, j < k → some.getD (lots.getD j 0).toNat false = false) : lfirst lots some = lots.getD k 0 := firstOf_found _ lots k hk hp hn
theorem lfirst_none (lots : List Int) (some : List Bool) (hn : ∀ j, j < lots.length → some.getD (lots.getD j 0).toNat false = false) : lfirst lots some = -1 := firstOf_none _ lots hn
/-- the first in the lots with the greatest of some counts: as if the others had less than nothing -/
theorem first_most (counts cut lots : List Int) (some : List Bool) (q : Int) (hl : lval lots = true) (hc : counts.length = lots.length) (hb : Bd counts q)
    (hs : ∃ j, j < lots.length ∧ some.getD j false = true) (hcut : ∀ j, j < lots.length → cut.getD j 0 = if some.getD j false then counts.getD j 0 else -1) :
    lfirst lots (mostOf counts some counts.length) = best cut lots := by
  unfold lfirst
  have hn := lval_n hl
  obtain ⟨j, hj, hsj⟩ := hs
  have hm0 : 0 ≤ mostTo counts some counts.length := by
    have := mostTo_ge counts some counts.length j (by omega) hsj
    have := (hb j).1
    omega
  obtain ⟨i, hi, hsi, he⟩ : ∃ j, j < counts.length ∧ some.getD j false = true ∧ mostTo counts some counts.length = counts.getD j 0 := by
    rcases mostTo_is counts some counts.length with h | h
    · omega
    · exact h
  rw [firstOf_congr _ (fun c => cut.getD c.toNat 0 == mostTo counts some counts.length) lots (fun c hcm => ?_)]
  · refine best_first cut lots (by omega) _ (fun c hcm => ?_) ⟨i, lval_all hl i (by omega), ?_⟩
    · have hr := lval_range hl c hcm
      rw [hcut c.toNat (by omega)]
      split
      · next h => exact mostTo_ge counts some counts.length c.toNat (by omega) h
      · omega
    · rw [Int.toNat_natCast, hcut i (by omega), hsi, he]; rfl
  · have hr := lval_range hl c hcm
    show (mostOf counts some counts.length).getD c.toNat false = _
    rw [mostOf_at counts some counts.length c.toNat (by omega)]
    rw [hcut c.toNat (by omega)]
    cases h : some.getD c.toNat false
    · symm
      simp
      omega
    · simp
/-- the truth n times -/
theorem all_at (n i : Nat) (h : i < n) : (List.replicate n true).getD i false = true := by simp [List.getD, h]
theorem first_best (counts lots : List Int) (q : Int) (hl : lval lots = true) (hc : counts.length = lots.length) (hb : Bd counts q) :
    lfirst lots (mostOf counts (List.replicate lots.length true) counts.length) = best counts lots := by
  have hn := lval_n hl
  exact first_most counts counts lots _ q hl hc hb ⟨0, by omega, all_at _ _ (by omega)⟩ (fun j hj => by rw [all_at _ _ hj]; rfl)

/-- the greatest count of the others -/
def nextTo (counts : List Int) (winner : Int) : Nat → Int
  | 0 => 0
  | k + 1 => if (k : Int) = winner then nextTo counts winner k else max (nextTo counts winner k) (counts.getD k 0)
theorem nextTo_bd (counts : List Int) (winner q : Int) (h : Bd counts q) : ∀ k, 0 ≤ nextTo counts winner k ∧ nextTo counts winner k ≤ q
  | 0 => by have := h 0; simp [nextTo]; omega
  | k + 1 => by
    have ih := nextTo_bd counts winner q h k
    have := h k
    rw [nextTo]
    split <;> omega
/-- how many ballots the winner has more than the next one -/
def margin (counts lots : List Int) : Int := counts.getD (best counts lots).toNat 0 - nextTo counts (best counts lots) counts.length
/-- all ballots of the first k piles -/
def sumTo (ps : List Pile) : Nat → Int
  | 0 => 0
  | k + 1 => sumTo ps k + (ps.getD k default).2
def psum (ps : List Pile) : Int := sumTo ps ps.length
theorem sumTo_bd {ps : List Pile} (hv : psval ps = true) : ∀ k, k ≤ ps.length → 0 ≤ sumTo ps k ∧ sumTo ps k ≤ 99 * k
  | 0, _ => by simp [sumTo]
  | k + 1, hk => by
    have ih := sumTo_bd hv k (by omega)
    have h1 := (pval_iff _).1 (psval_at ps hv k (by omega))
    rw [sumTo]
    have := h1.2
    omega
theorem psum_bd {ps : List Pile} (hv : psval ps = true) : 0 ≤ psum ps ∧ psum ps ≤ 1188 := by
  have h := sumTo_bd hv ps.length (Nat.le_refl _)
  have := ((psval_iff ps).1 hv).1
  unfold psum
  omega
/-- has somebody more than half? -/
def over (counts : List Int) (total : Int) (k : Nat) : Bool := (List.range k).any fun i => decide (total < 2 * counts.getD i 0)
theorem over_iff (counts : List Int) (total : Int) (k : Nat) : over counts total k = true ↔ ∃ i, i < k ∧ total < 2 * counts.getD i 0 := by simp [over]
theorem over_no (counts : List Int) (total : Int) (k : Nat) : over counts total k = false ↔ ∀ i, i < k → 2 * counts.getD i 0 ≤ total := by
  simp [over]
theorem over_best (counts lots : List Int) (total : Int) (hl : lval lots = true) (hc : counts.length = lots.length) : over counts total counts.length = decide (total < 2 * counts.getD (best counts lots).toNat 0) := by
  have hn := lval_n hl
  obtain ⟨p, hp, he, h1, _⟩ := best_spec counts lots (by omega)
  have hr := lval_at hl p hp
  rw [Bool.eq_iff_iff, over_iff, decide_eq_true_iff, he]
  constructor
  · rintro ⟨i, hi, h⟩
    obtain ⟨j, hj, e⟩ := List.getElem_of_mem (lval_all hl i (by omega))
    have := h1 j hj
    rw [getD_get _ _ hj, e, Int.toNat_natCast] at this
    omega
  · intro h
    exact ⟨(lots.getD p 0).toNat, by omega, h⟩
/-- the first depth with a majority, or the last one -/
def dep (ps : List Pile) (n : Nat) : Nat := (((List.range n).find? fun d => over (counted (ptsDepth ((d + 1 : Nat) : Int)) ps n) (psum ps) n).map (· + 1)).getD n
theorem dep_is (ps : List Pile) (n d : Nat) (h1 : 1 ≤ d) (h2 : d ≤ n) (hb : ∀ j : Nat, 1 ≤ j → j < d → over (counted (ptsDepth (j : Int)) ps n) (psum ps) n = false)
    (hd : d = n ∨ over (counted (ptsDepth (d : Int)) ps n) (psum ps) n = true) : dep ps n = d := by
  by_cases ho : over (counted (ptsDepth (d : Int)) ps n) (psum ps) n = true
  · have : (List.range n).find? (fun d => over (counted (ptsDepth ((d + 1 : Nat) : Int)) ps n) (psum ps) n) = some (d - 1) := by
      rw [List.find?_range_eq_some]
      refine ⟨?_, ?_, fun j hj => ?_⟩
      · rw [show d - 1 + 1 = d by omega]; exact ho
      · simp; omega
      · rw [hb (j + 1) (by omega) (by omega)]; rfl
    unfold dep
    rw [this]
    simp
    omega
  · have hdn : d = n := hd.resolve_right ho
    have : (List.range n).find? (fun d => over (counted (ptsDepth ((d + 1 : Nat) : Int)) ps n) (psum ps) n) = none := by
      rw [List.find?_range_eq_none]
      intro j hj
      by_cases hj' : j + 1 = d
      · rw [hj']; simpa using ho
      · rw [hb (j + 1) (by omega) (by omega)]; rfl
    unfold dep
    rw [this]
    simp
    omega
end Go.Proofs.Ytiglkajafdecgaa.Bp
