/-
  The small functions of the statements themselves: sizes, copies, comparisons, marks.
-/
import Derived.Test.YtdcfpobjiofnmaaSmall
namespace Go.Proofs.Ytdcfpobjiofnmaa
set_option linter.unusedVariables false
open Go.RowKit

theorem int_row : (Try.prog.info? 3).map (fun i => (i.zero, i.size, i.bytes)) = some (some (.int .i64 0), 1, 8) := by kernel_rfl
theorem pile_row : (Try.prog.info? 50).map (fun i => (i.zero, i.size, i.bytes)) = some (some (.agg #[.string ByteArray.empty, .int .i64 0]), 2, 24) := by kernel_rfl

/-- what szPileS answers: where the answer is not below 0, nothing is long -/
def Sized (n : Nat) (ps : List (ByteArray × Int)) (L : Int) (w : World) (e : Ending) (w' : World) : Prop :=
  ∃ r : Int, e = .returned (.int .i64 r) ∧ (0 ≤ r → (n : Int) ≤ L ∧ ∀ p ∈ ps, (p.1.size : Int) ≤ L) ∧ r ≤ L ∧ Below w.heap.size w w'


theorem sized_step {ps : List (ByteArray × Int)} {k : Nat} {s : ByteArray} {m : Int} (hp : ps.getD k default = (s, m)) (hk : k < ps.length) {P : ByteArray × Int → Prop} (h : ∀ p ∈ ps.take k, P p) (hs : P (s, m)) : ∀ p ∈ ps.take (k + 1), P p := by
  rw [List.take_succ_eq_append_getElem hk]
  intro p hpm
  rcases List.mem_append.1 hpm with h1 | h1
  · exact h p h1
  · have e : ps[k] = (s, m) := by rw [← hp]; simp [List.getD, hk]
    rw [e] at h1
    simp only [List.mem_singleton] at h1
    rw [h1]; exact hs



/-- piles copied up to place k -/
def copied (ps : List (ByteArray × Int)) (k : Nat) : List (ByteArray × Int) := ps.take k ++ List.replicate (ps.length - k) (ByteArray.empty, 0)
theorem copied_zero (ps : List (ByteArray × Int)) : copied ps 0 = List.replicate ps.length (ByteArray.empty, 0) := by simp [copied]
theorem copied_all (ps : List (ByteArray × Int)) : copied ps ps.length = ps := by simp [copied]
theorem copied_len (ps : List (ByteArray × Int)) (k : Nat) (h : k ≤ ps.length) : (copied ps k).length = ps.length := by simp [copied]; omega
theorem copied_set (ps : List (ByteArray × Int)) (k : Nat) (h : k < ps.length) : (copied ps k).set k (ps.getD k default) = copied ps (k + 1) := by
  have e : ps.getD k default = ps[k] := by simp [List.getD, h]
  rw [e]
  unfold copied
  rw [List.set_append_right _ _ (by simp; omega), List.take_succ_eq_append_getElem h, List.append_assoc]
  congr 1
  have h1 : ps.length - k = (ps.length - (k + 1)) + 1 := by omega
  have h2 : k - (ps.take k).length = 0 := by simp; omega
  rw [h1, h2, List.replicate_succ]
  rfl

/-- what a copy leaves: piles of the call's own -/
def CopiedP (n : Nat) (ps : List (ByteArray × Int)) (w : World) (e : Ending) (w' : World) : Prop :=
  ∃ (A : Option Addr) (c : Nat), e = .returned (.slice A n c) ∧ n ≤ c ∧ OwnP w' w.heap.size (.slice A n c) n ps ∧ Below w.heap.size w w'


theorem list_eq {α : Type} (xs ys : List α) (d : α) (hl : xs.length = ys.length) (h : ∀ j, j < xs.length → xs.getD j d = ys.getD j d) : xs = ys := by
  apply List.ext_getElem hl
  intro j h1 h2
  have := h j h1
  simpa [List.getD, h1, h2] using this




theorem toList_inj {s t : ByteArray} (h : s.toList = t.toList) : s = t := by
  rw [ByteArray.toList_eq, ByteArray.toList_eq] at h
  exact WideShapes.bytes_inj h
theorem pile_eq (s t : ByteArray) (m q : Int) : (s.toList == t.toList && m == q) = decide ((s, m) = (t, q)) := by
  by_cases h : s = t
  · subst h
    by_cases h2 : m = q
    · subst h2; simp
    · have : (m == q) = false := by simpa using h2
      rw [this]; simp [h2]
  · have h3 : (s.toList == t.toList) = false := by
      rw [beq_eq_false_iff_ne]
      exact fun e => h (toList_inj e)
    rw [h3]; simp [h]


/-- numbers from k on -/
def marks (k : Int) (n : Nat) : List Int := (List.range n).map fun (i : Nat) => k + (i : Int)
theorem marks_len (k : Int) (n : Nat) : (marks k n).length = n := by simp [marks]
theorem marks_at (k : Int) (n j : Nat) (h : j < n) : (marks k n).getD j 0 = k + j := by simp [marks, List.getD, h]
/-- the first j numbers marked -/
def marked (xs : List Int) (k : Int) (j : Nat) : List Int := marks k j ++ xs.drop j
theorem marked_zero (xs : List Int) (k : Int) : marked xs k 0 = xs := by simp [marked, marks]
theorem marked_all (xs : List Int) (k : Int) : marked xs k xs.length = marks k xs.length := by simp [marked]
theorem marked_len (xs : List Int) (k : Int) (j : Nat) (h : j ≤ xs.length) : (marked xs k j).length = xs.length := by simp [marked, marks_len]; omega
theorem marked_set (xs : List Int) (k : Int) (j : Nat) (h : j < xs.length) : (marked xs k j).set j (k + j) = marked xs k (j + 1) := by
  unfold marked
  rw [List.set_append_right _ _ (by rw [marks_len]; omega), marks_len, Nat.sub_self, List.drop_eq_getElem_cons h, List.set_cons_zero]
  unfold marks
  rw [List.range_succ, List.map_append, List.append_assoc]
  rfl

/-- what marking leaves -/
def MarkedI (g : Nat) (n c : Nat) (k : Int) (w : World) (e : Ending) (w' : World) : Prop :=
  e = .returned (.int .i64 (k + n)) ∧ Own w' g (.slice (some ⟨g, 0, none⟩) n c) n (marks k n) ∧ w.grownBy w' (some g)



/-- some string -/
def SomeText (w : World) (e : Ending) (w' : World) : Prop := ∃ s : ByteArray, e = .returned (.string s) ∧ Below w.heap.size w w'
theorem a_digit (q : Int) (h0 : 0 ≤ q) : ∃ b : UInt8, (b.toNat : Int) = 48 + q % 10 := ⟨UInt8.ofNat (48 + (q % 10).toNat), by
  rw [UInt8.toNat_ofNat']
  omega⟩
theorem text_size (a b : ByteArray) : (a ++ b).size = a.size + b.size := ByteArray.size_append


/-- what marking piles leaves: only their own block has turned -/
def MarkedP (g : Nat) (n : Nat) (k : Int) (w : World) (e : Ending) (w' : World) : Prop := e = .returned (.int .i64 (k + 2 * n)) ∧ w.grownBy w' (some g)

end Go.Proofs.Ytdcfpobjiofnmaa
