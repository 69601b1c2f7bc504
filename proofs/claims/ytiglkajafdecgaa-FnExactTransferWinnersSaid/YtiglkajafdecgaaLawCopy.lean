/-
  Copies and marks of numbers and truths in the statements' own functions.
-/
import Derived.Test.YtiglkajafdecgaaLawMem
import Derived.Test.YtiglkajafdecgaaBools
namespace Go.Proofs.Ytiglkajafdecgaa
set_option linter.unusedVariables false
open Go.RowKit

/-- a list copied up to place k -/
def copiedL {α : Type} (d : α) (xs : List α) (k : Nat) : List α := xs.take k ++ List.replicate (xs.length - k) d
theorem copiedL_zero {α : Type} (d : α) (xs : List α) : copiedL d xs 0 = List.replicate xs.length d := by simp [copiedL]
theorem copiedL_all {α : Type} (d : α) (xs : List α) : copiedL d xs xs.length = xs := by simp [copiedL]
theorem copiedL_len {α : Type} (d : α) (xs : List α) (k : Nat) (h : k ≤ xs.length) : (copiedL d xs k).length = xs.length := by simp [copiedL]; omega
theorem copiedL_set {α : Type} (d : α) (xs : List α) (k : Nat) (h : k < xs.length) : (copiedL d xs k).set k (xs.getD k d) = copiedL d xs (k + 1) := by
  have e : xs.getD k d = xs[k] := by simp [List.getD, h]
  rw [e]
  unfold copiedL
  rw [List.set_append_right _ _ (by simp; omega), List.take_succ_eq_append_getElem h, List.append_assoc]
  congr 1
  have h1 : xs.length - k = (xs.length - (k + 1)) + 1 := by omega
  have h2 : k - (xs.take k).length = 0 := by simp; omega
  rw [h1, h2, List.replicate_succ]
  rfl

set_option maxRecDepth 100000 in
set_option maxHeartbeats 400000 in
theorem toIntS_any (A : Option Addr) (n c : Nat) (xs : List Int) (w : World) (h : Ints w w.heap.size A n xs) (hn : n ≤ 1048576) :
    Calls Try.prog 13 #[.slice A n c] w (MadeI n xs w) := by
  have hl := Lib.hid h.1
  obtain ⟨i0, hi0, hz0, hz1, hz2⟩ := info_parts int_info
  go_enter Try.func13, Try.ntmps13
  go_wp2_with (at_make; refine wpList_make_full _ rfl (.tmp 6) (.tmp 6) 23 rfl w.heap.size 3 i0 _ 1 Try.underlying23 hi0 hz0 hz1 .i64 .i64 n n n rfl rfl rfl rfl (by rw [hz2]; omega) (by unfold maxLen; omega) (Nat.le_refl _) ?_; intro w1 hown hg)
  have hown1 : Own w1 w.heap.size (.slice (some ⟨w.heap.size, 0, none⟩) n n) n (copiedL 0 xs 0) := by
    rw [copiedL_zero, hl.out]
    exact made_own hown
  have hb1 : Below w.heap.size w w1 := (Below.refl _ _).grown hg (Nat.le_refl _) (by simp)
  clear hown hg
  go_loopw [4] (fun i wr => ∃ k : Nat, k ≤ n ∧ i = .int .i64 k ∧ Own wr w.heap.size (.slice (some ⟨w.heap.size, 0, none⟩) n n) n (copiedL 0 xs k) ∧ Below w.heap.size w wr) (fun i _ => n - (intOf i).toNat)
  case atStart => exact ⟨0, Nat.zero_le _, rfl, hown1, hb1⟩
  case round =>
    obtain ⟨k, hk, rfl, hown, hb⟩ := hrel
    have hz := hb.size
    by_cases hlt : k < n
    · have hr := h.below hb
      obtain ⟨g, o, z, rfl, hg, hc, hp⟩ := hr.at hlt
      obtain ⟨hd1, hf1⟩ := own_cell hown k hlt
      have hst := (own_only_set hown k z).1
      rw [← hp.out, copiedL_set 0 xs k (by rw [hl.out]; exact hlt), hp.out] at hst
      have Hst := Lib.hid hst
      clear hst hown
      obtain ⟨y, hy⟩ : ∃ y, (copiedL 0 xs k).getD k 0 = y := ⟨_, rfl⟩
      rw [hy] at hd1
      clear hy
      go_wp2_with fail
      go_roundw
      case rel => exact ⟨k + 1, by omega, by go_num, Hst.out, hb.setCell (Nat.le_refl _) _⟩
      case measure => simp [intOf]; omega
    · have hkn : k = n := by omega
      have Hkn := Lib.hid hkn
      clear hkn
      go_wp2_with fail
      go_ret
      refine ⟨_, n, rfl, Nat.le_refl _, ?_, hb⟩
      have e := copiedL_all 0 xs
      rw [hl.out, ← Hkn.out] at e
      rw [← e]
      exact hown


end Go.Proofs.Ytiglkajafdecgaa
