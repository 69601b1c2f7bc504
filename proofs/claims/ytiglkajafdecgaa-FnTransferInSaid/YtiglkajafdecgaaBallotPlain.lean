/-
  Plain words for ballots and piles: what is a ballot, a pile, a list of piles that fits a number of candidates. No program in sight.
-/
import Derived.WalkKit
namespace Go.Proofs.Ytiglkajafdecgaa.Bp
set_option linter.unusedVariables false
open Go

/-- a pile: its text, how many -/
abbrev Pile := ByteArray × Int

/-- is n a number of candidates? -/
def many (n : Int) : Bool := decide (1 ≤ n) && decide (n ≤ 5)
theorem many_iff (n : Int) : many n = true ↔ 1 ≤ n ∧ n ≤ 5 := by simp [many]
theorem many_no (n : Int) (h : many n = false) : n < 1 ∨ 5 < n := by
  simp only [many, Bool.and_eq_false_iff, decide_eq_false_iff_not] at h
  omega
/-- the first place of x in a list, or -1 -/
def idx (l : List Int) (x : Int) : Int := match l.idxOf? x with | some k => (k : Int) | none => -1
def has (l : List Int) (x : Int) : Bool := decide (x ∈ l)
theorem idx_found (l : List Int) (x : Int) (k : Nat) (hk : k < l.length) (h : l.getD k 0 = x) (hn : ∀ j, j < k → l.getD j 0 ≠ x) : idx l x = k := by
  unfold idx
  have : l.idxOf? x = some k := by
    rw [List.idxOf?, List.findIdx?_eq_some_iff_getElem]
    refine ⟨hk, ?_, fun j hj => ?_⟩
    · have : l[k] = x := by rw [← h]; simp [List.getD, hk]
      simp [this]
    · have := hn j hj
      have h2 : l.getD j 0 = l[j] := by simp [List.getD, show j < l.length by omega]
      rw [h2] at this
      simpa using this
  rw [this]
theorem idx_none (l : List Int) (x : Int) (hn : ∀ j, j < l.length → l.getD j 0 ≠ x) : idx l x = -1 := by
  unfold idx
  have : l.idxOf? x = none := by
    rw [List.idxOf?, List.findIdx?_eq_none_iff]
    intro y hy
    obtain ⟨j, hj, rfl⟩ := List.getElem_of_mem hy
    have := hn j hj
    have h2 : l.getD j 0 = l[j] := by simp [List.getD, hj]
    rw [h2] at this
    simpa using this
  rw [this]
theorem idx_has (l : List Int) (x : Int) : decide (0 ≤ idx l x) = has l x := by
  unfold idx has
  cases h : l.idxOf? x with
  | none =>
    have : x ∉ l := by
      rw [List.idxOf?, List.findIdx?_eq_none_iff] at h
      intro hm
      simpa using h x hm
    simp [this]
  | some k =>
    have : x ∈ l := by
      rw [List.idxOf?, List.findIdx?_eq_some_iff_getElem] at h
      obtain ⟨hk, e, _⟩ := h
      have : l[k] = x := by simpa using e
      rw [← this]; exact List.getElem_mem hk
    simp [this]
theorem has_true (l : List Int) (x : Int) (k : Nat) (hk : k < l.length) (h : l.getD k 0 = x) : has l x = true := by
  unfold has
  have h2 : l.getD k 0 = l[k] := by simp [List.getD, hk]
  rw [h2] at h
  rw [← h]
  simp
theorem has_false (l : List Int) (x : Int) (hn : ∀ j, j < l.length → l.getD j 0 ≠ x) : has l x = false := by
  rw [← idx_has, idx_none l x hn]; rfl
/-- does the candidate at place i of a ballot fit? -/
def Fit (b : List Int) (n : Int) (i : Nat) : Prop := 0 ≤ b.getD i 0 ∧ b.getD i 0 < n ∧ b.getD i 0 ∉ b.take i
def BVal (b : List Int) (n : Int) : Prop := (1 ≤ n ∧ n ≤ 5) ∧ (∀ c ∈ b, 0 ≤ c ∧ c < n) ∧ b.Nodup
instance (b : List Int) (n : Int) : Decidable (BVal b n) := by unfold BVal; infer_instance
/-- is b a ballot? -/
def bval (b : List Int) (n : Int) : Bool := decide (BVal b n)
theorem bval_iff (b : List Int) (n : Int) : bval b n = true ↔ BVal b n := by simp [bval]
theorem bval_many (b : List Int) (n : Int) (h : many n = false) : bval b n = false := by
  have := many_no n h
  simp only [bval, decide_eq_false_iff_not]
  intro hb
  have := hb.1
  omega
theorem getD_get (b : List Int) (i : Nat) (h : i < b.length) : b.getD i 0 = b[i] := by simp [List.getD, h]
theorem getD_mem (b : List Int) (i : Nat) (h : i < b.length) : b.getD i 0 ∈ b := by
  rw [getD_get _ _ h]; exact List.getElem_mem h
theorem nodup_of_fit (b : List Int) : (∀ i, i < b.length → b.getD i 0 ∉ b.take i) → b.Nodup := by
  intro h
  rw [List.nodup_iff_pairwise_ne, List.pairwise_iff_getElem]
  intro i j hi hj hij e
  have := h j hj
  rw [getD_get _ _ hj] at this
  apply this
  rw [← e]
  rw [List.mem_take_iff_getElem]
  exact ⟨i, by omega, rfl⟩
theorem fit_of_nodup (b : List Int) (hb : b.Nodup) (i : Nat) (h : i < b.length) : b.getD i 0 ∉ b.take i := by
  rw [List.nodup_iff_pairwise_ne, List.pairwise_iff_getElem] at hb
  rw [getD_get _ _ h, List.mem_take_iff_getElem]
  rintro ⟨j, hj, e⟩
  exact hb j i (by omega) h (by omega) e
theorem bval_true (b : List Int) (n : Int) (hn : many n = true) (h : ∀ i, i < b.length → Fit b n i) : bval b n = true := by
  rw [bval_iff]
  refine ⟨(many_iff n).1 hn, fun c hc => ?_, nodup_of_fit b fun i hi => (h i hi).2.2⟩
  obtain ⟨i, hi, rfl⟩ := List.getElem_of_mem hc
  have := h i hi
  rw [Fit, getD_get _ _ hi] at this
  exact ⟨this.1, this.2.1⟩
theorem bval_fit (b : List Int) (n : Int) (h : bval b n = true) (i : Nat) (hi : i < b.length) : Fit b n i := by
  rw [bval_iff] at h
  have := h.2.1 _ (getD_mem b i hi)
  exact ⟨this.1, this.2, fit_of_nodup b h.2.2 i hi⟩
theorem bval_false (b : List Int) (n : Int) (i : Nat) (hi : i < b.length) (h : ¬ Fit b n i) : bval b n = false := by
  cases hb : bval b n
  · rfl
  · exact absurd (bval_fit b n hb i hi) h
/-- a ballot has at most five places -/
theorem nodup_len : ∀ (n : Nat) (b : List Int), b.Nodup → (∀ c ∈ b, 0 ≤ c ∧ c < n) → b.length ≤ n
  | 0, [], _, _ => by simp
  | 0, a :: _, _, h => by have := h a (List.mem_cons_self ..); omega
  | n + 1, b, hb, h => by
    have h1 : (b.erase (n : Int)).length ≤ n := nodup_len n _ (hb.erase _) fun c hc => by
      have h2 := (List.Nodup.mem_erase_iff hb).1 hc
      have h3 := h c h2.2
      have := h2.1
      omega
    have : b.length ≤ (b.erase (n : Int)).length + 1 := by
      by_cases hm : (n : Int) ∈ b
      · rw [List.length_erase_of_mem hm]; omega
      · rw [List.erase_of_not_mem hm]; omega
    omega
theorem bval_len (b : List Int) (n : Int) (h : bval b n = true) : (b.length : Int) ≤ n := by
  rw [bval_iff] at h
  have := nodup_len n.toNat b h.2.2 fun c hc => by have := h.2.1 c hc; omega
  have := h.1
  omega

/-- the candidates that a text names -/
def parse (s : ByteArray) : List Int := s.data.toList.map fun c => (c.toNat : Int) - 97
theorem parse_len (s : ByteArray) : (parse s).length = s.size := by unfold parse ByteArray.size; rw [List.length_map, Array.length_toList]
def pok (s : ByteArray) : Bool := bval (parse s) 5
theorem pok_long (s : ByteArray) (h : 5 < s.size) : pok s = false := by
  cases hp : pok s
  · rfl
  · have := bval_len _ _ hp
    rw [parse_len] at this
    omega
/-- the ballot of a text: nothing where it names none -/
def bal (s : ByteArray) : List Int := if pok s then parse s else []
theorem bal_yes (s : ByteArray) (h : pok s = true) : bal s = parse s := by simp [bal, h]
theorem bal_no (s : ByteArray) (h : pok s = false) : bal s = [] := by simp [bal, h]
theorem parse_snoc (s : ByteArray) (k : Nat) (h : k < s.size) : (parse s).take (k + 1) = (parse s).take k ++ [((s[k]).toNat : Int) - 97] := by
  rw [List.take_succ_eq_append_getElem (by rw [parse_len]; exact h)]
  simp [parse]
  rfl
theorem parse_all (s : ByteArray) : (parse s).take s.size = parse s := List.take_of_length_le (by rw [parse_len]; exact Nat.le_refl _)
theorem bal_len (s : ByteArray) : (bal s).length ≤ 5 := by
  unfold bal
  split
  · next h => have := bval_len _ _ h; omega
  · simp
/-- is p a pile? -/
def pval (p : Pile) : Bool := pok p.1 && (decide (1 ≤ p.2) && decide (p.2 ≤ 99))
theorem pval_iff (p : Pile) : pval p = true ↔ pok p.1 = true ∧ 1 ≤ p.2 ∧ p.2 ≤ 99 := by simp [pval]
/-- one text lies ahead of another -/
def ahead (a b : ByteArray) : Bool := Op.bytesLess a.toList b.toList
/-- does the pile at place k stand as it should? -/
def POk (ps : List Pile) (k : Nat) : Prop := pval (ps.getD k default) = true ∧ (0 < k → ahead (ps.getD (k - 1) default).1 (ps.getD k default).1 = true)
instance (ps : List Pile) (k : Nat) : Decidable (POk ps k) := by unfold POk; infer_instance
/-- are these piles? -/
def psval (ps : List Pile) : Bool := decide (ps.length ≤ 12) && (List.range ps.length).all fun k => decide (POk ps k)
theorem psval_iff (ps : List Pile) : psval ps = true ↔ ps.length ≤ 12 ∧ ∀ k, k < ps.length → POk ps k := by simp [psval]
theorem psval_true (ps : List Pile) (h : ps.length ≤ 12) (hk : ∀ k, k < ps.length → POk ps k) : psval ps = true := (psval_iff ps).2 ⟨h, hk⟩
theorem psval_long (ps : List Pile) (h : 12 < ps.length) : psval ps = false := by
  cases hp : psval ps
  · rfl
  · have := ((psval_iff ps).1 hp).1; omega
theorem psval_all (ps : List Pile) (hk : ∀ k, k < ps.length → POk ps k) : psval ps = decide ((ps.length : Int) ≤ 12) := by
  by_cases h : ps.length ≤ 12
  · rw [psval_true ps h hk]; symm; simp; omega
  · rw [psval_long ps (by omega)]; symm; simp; omega
theorem psval_bad (ps : List Pile) (k : Nat) (hk : k < ps.length) (h : ¬ POk ps k) : psval ps = false := by
  cases hp : psval ps
  · rfl
  · exact absurd (((psval_iff ps).1 hp).2 k hk) h
theorem psval_at (ps : List Pile) (h : psval ps = true) (k : Nat) (hk : k < ps.length) : pval (ps.getD k default) = true := (((psval_iff ps).1 h).2 k hk).1
/-- are these piles for n candidates? -/
def fits (ps : List Pile) (n : Int) : Bool := many n && (psval ps && (List.range ps.length).all fun k => bval (bal (ps.getD k default).1) n)
theorem fits_iff (ps : List Pile) (n : Int) : fits ps n = true ↔ many n = true ∧ psval ps = true ∧ ∀ k, k < ps.length → bval (bal (ps.getD k default).1) n = true := by simp [fits]
theorem fits_many (ps : List Pile) (n : Int) (h : many n = false) : fits ps n = false := by simp [fits, h]
theorem fits_ps (ps : List Pile) (n : Int) (h : psval ps = false) : fits ps n = false := by simp [fits, h]
theorem fits_true (ps : List Pile) (n : Int) (h1 : many n = true) (h2 : psval ps = true) (h3 : ∀ k, k < ps.length → bval (bal (ps.getD k default).1) n = true) : fits ps n = true := (fits_iff ps n).2 ⟨h1, h2, h3⟩
theorem fits_bad (ps : List Pile) (n : Int) (k : Nat) (hk : k < ps.length) (h : bval (bal (ps.getD k default).1) n = false) : fits ps n = false := by
  cases hp : fits ps n
  · rfl
  · have := ((fits_iff ps n).1 hp).2.2 k hk; rw [h] at this; cases this
theorem fits_all (ps : List Pile) (n : Int) (h : ∀ k, k < ps.length → bval (bal (ps.getD k default).1) n = true) : fits ps n = (psval ps && (decide (1 ≤ n) && decide (n ≤ 5))) := by
  cases hp : psval ps
  · rw [fits_ps ps n hp]; rfl
  · show _ = many n
    cases hm : many n
    · rw [fits_many ps n hm]
    · rw [fits_true ps n hm hp h]
theorem bytesLess_irrefl : ∀ a : List UInt8, Op.bytesLess a a = false
  | [] => rfl
  | a :: x => by simp [Op.bytesLess, bytesLess_irrefl x]
theorem bytesLess_total : ∀ a b : List UInt8, (Op.bytesLess a b || a == b) = !Op.bytesLess b a
  | [], [] => rfl
  | [], b :: y => by simp [Op.bytesLess]
  | a :: x, [] => by simp [Op.bytesLess]
  | a :: x, b :: y => by
    have ih := bytesLess_total x y
    simp only [Op.bytesLess, List.cons_beq_cons]
    by_cases h1 : a < b
    · have h2 : ¬ b < a := by simp only [UInt8.lt_iff_toNat_lt] at *; omega
      have h3 : (b == a) = false := by simp only [beq_eq_false_iff_ne]; rintro rfl; exact h2 h1
      simp [h1, h2, h3]
    · by_cases h2 : a = b
      · subst h2
        simp [h1, ← ih]
      · have h3 : b < a := by
          have : a.toNat ≠ b.toNat := fun e => h2 (UInt8.toNat_inj.1 e)
          simp only [UInt8.lt_iff_toNat_lt] at *; omega
        have h4 : (a == b) = false := by simpa using h2
        simp [h1, h3, h4]
theorem ahead_no (s s' : ByteArray) (h : Op.bytesLess s.toList s'.toList = true ∨ (s.toList == s'.toList) = true) : ahead s' s = false := by
  have h2 := bytesLess_total s.toList s'.toList
  unfold ahead
  rcases h with h | h <;> rw [h] at h2 <;> simp at h2 <;> exact h2
theorem ahead_yes (s s' : ByteArray) (h1 : Op.bytesLess s.toList s'.toList = false) (h2 : (s.toList == s'.toList) = false) : ahead s' s = true := by
  have h := bytesLess_total s.toList s'.toList
  unfold ahead
  rw [h1, h2] at h
  simpa using h.symm
end Go.Proofs.Ytiglkajafdecgaa.Bp
