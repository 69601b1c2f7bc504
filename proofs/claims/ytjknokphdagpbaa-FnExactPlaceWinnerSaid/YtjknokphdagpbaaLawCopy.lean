/-
  Copies and marks of numbers and truths in the statements' own functions.
-/
import Derived.Test.YtjknokphdagpbaaLawMem
import Derived.Test.YtjknokphdagpbaaBools
namespace Go.Proofs.Ytjknokphdagpbaa
set_option linter.unusedVariables false
open Go.RowKit

/-- a list copied up to place k -/
def copiedL {α : Type} (d : α) (xs : List α) (k : Nat) : List α := xs.take k ++ List.replicate (xs.length - k) d
theorem copiedL_zero {α : Type} (d : α) (xs : List α) : copiedL d xs 0 = List.replicate xs.length d := by simp [copiedL]
theorem copiedL_all {α : Type} (d : α) (xs : List α) : copiedL d xs xs.length = xs := by simp [copiedL]
theorem copiedL_len {α : Type} (d : α) (xs : List α) (k : Nat) (h : k ≤ xs.length) : (copiedL d xs k).length = xs.length := by simp [copiedL]; omega
theorem copiedL_set {α : Type} (d : α) (xs : List α) (k : Nat) (h : k < xs.length) : (copiedL d xs k).set k (xs.getD k d) = copiedL d xs (k + 1) := by
  have e : xs.getD k d = xs[k] := by simp [List.getD, h]
  rw [e]
  unfold copiedL
  rw [List.set_append_right _ _ (by simp; omega), List.take_succ_eq_append_getElem h, List.append_assoc]
  congr 1
  have h1 : xs.length - k = (xs.length - (k + 1)) + 1 := by omega
  have h2 : k - (xs.take k).length = 0 := by simp; omega
  rw [h1, h2, List.replicate_succ]
  rfl

set_option maxRecDepth 100000 in
set_option maxHeartbeats 400000 in
theorem toIntS_any (A : Option Addr) (n c : Nat) (xs : List Int) (w : World) (h : Ints w w.heap.size A n xs) (hn : n ≤ 1048576) :
    Calls Try.prog 26 #[.slice A n c] w (MadeI n xs w) := by
  have hl := Lib.hid h.1
  obtain ⟨i0, hi0, hz0, hz1, hz2⟩ := info_parts int_info
  go_enter Try.func26, Try.ntmps26
  go_wp2_with (at_make; refine wpList_make_full _ rfl (.tmp 6) (.tmp 6) 24 rfl w.heap.size 3 i0 _ 1 Try.underlying24 hi0 hz0 hz1 .i64 .i64 n n n rfl rfl rfl rfl (by rw [hz2]; omega) (by unfold maxLen; omega) (Nat.le_refl _) ?_; intro w1 hown hg)
  have hown1 : Own w1 w.heap.size (.slice (some ⟨w.heap.size, 0, none⟩) n n) n (copiedL 0 xs 0) := by
    rw [copiedL_zero, hl.out]
    exact made_own hown
  have hb1 : Below w.heap.size w w1 := (Below.refl _ _).grown hg (Nat.le_refl _) (by simp)
  clear hown hg
  go_loopw [4] (fun i wr => ∃ k : Nat, k ≤ n ∧ i = .int .i64 k ∧ Own wr w.heap.size (.slice (some ⟨w.heap.size, 0, none⟩) n n) n (copiedL 0 xs k) ∧ Below w.heap.size w wr) (fun i _ => n - (intOf i).toNat)
  case atStart => exact ⟨0, Nat.zero_le _, rfl, hown1, hb1⟩
  case round =>
    obtain ⟨k, hk, rfl, hown, hb⟩ := hrel
    have hz := hb.size
    by_cases hlt : k < n
    · have hr := h.below hb
      obtain ⟨g, o, z, rfl, hg, hc, hp⟩ := hr.at hlt
      obtain ⟨hd1, hf1⟩ := own_cell hown k hlt
      have hst := (own_only_set hown k z).1
      rw [← hp.out, copiedL_set 0 xs k (by rw [hl.out]; exact hlt), hp.out] at hst
      have Hst := Lib.hid hst
      clear hst hown
      obtain ⟨y, hy⟩ : ∃ y, (copiedL 0 xs k).getD k 0 = y := ⟨_, rfl⟩
      rw [hy] at hd1
      clear hy
      go_wp2_with fail
      go_roundw
      case rel => exact ⟨k + 1, by omega, by go_num, Hst.out, hb.setCell (Nat.le_refl _) _⟩
      case measure => simp [intOf]; omega
    · have hkn : k = n := by omega
      have Hkn := Lib.hid hkn
      clear hkn
      go_wp2_with fail
      go_ret
      refine ⟨_, n, rfl, Nat.le_refl _, ?_, hb⟩
      have e := copiedL_all 0 xs
      rw [hl.out, ← Hkn.out] at e
      rw [← e]
      exact hown

set_option maxRecDepth 100000 in
set_option maxHeartbeats 400000 in
theorem toBoolS_any (A : Option Addr) (n c : Nat) (xs : List Bool) (w : World) (h : Bools w w.heap.size A n xs) (hn : n ≤ 1048576) :
    Calls Try.prog 34 #[.slice A n c] w (MadeB n xs w) := by
  have hl := Lib.hid h.1
  obtain ⟨i0, hi0, hz0, hz1, hz2⟩ := info_parts bool_info
  go_enter Try.func34, Try.ntmps34
  go_wp2_with (at_make; refine wpList_make_full _ rfl (.tmp 6) (.tmp 6) 40 rfl w.heap.size 4 i0 _ 1 Try.underlying40 hi0 hz0 hz1 .i64 .i64 n n n rfl rfl rfl rfl (by rw [hz2]; omega) (by unfold maxLen; omega) (Nat.le_refl _) ?_; intro w1 hown hg)
  have hown1 : OwnB w1 w.heap.size (.slice (some ⟨w.heap.size, 0, none⟩) n n) n (copiedL false xs 0) := by
    rw [copiedL_zero, hl.out]
    exact madeB_own hown
  have hb1 : Below w.heap.size w w1 := (Below.refl _ _).grown hg (Nat.le_refl _) (by simp)
  clear hown hg
  go_loopw [4] (fun i wr => ∃ k : Nat, k ≤ n ∧ i = .int .i64 k ∧ OwnB wr w.heap.size (.slice (some ⟨w.heap.size, 0, none⟩) n n) n (copiedL false xs k) ∧ Below w.heap.size w wr) (fun i _ => n - (intOf i).toNat)
  case atStart => exact ⟨0, Nat.zero_le _, rfl, hown1, hb1⟩
  case round =>
    obtain ⟨k, hk, rfl, hown, hb⟩ := hrel
    have hz := hb.size
    by_cases hlt : k < n
    · have hr := h.below hb
      obtain ⟨g, o, z, rfl, hg, hc, hp⟩ := hr.at hlt
      obtain ⟨hd1, hf1⟩ := ownB_cell hown k hlt
      have hst := (ownB_set hown k z).1
      rw [← hp.out, copiedL_set false xs k (by rw [hl.out]; exact hlt), hp.out] at hst
      have Hst := Lib.hid hst
      clear hst hown
      obtain ⟨y, hy⟩ : ∃ y, (copiedL false xs k).getD k false = y := ⟨_, rfl⟩
      rw [hy] at hd1
      clear hy
      go_wp2_with fail
      go_roundw
      case rel => exact ⟨k + 1, by omega, by go_num, Hst.out, hb.setCell (Nat.le_refl _) _⟩
      case measure => simp [intOf]; omega
    · have hkn : k = n := by omega
      have Hkn := Lib.hid hkn
      clear hkn
      go_wp2_with fail
      go_ret
      refine ⟨_, n, rfl, Nat.le_refl _, ?_, hb⟩
      have e := copiedL_all false xs
      rw [hl.out, ← Hkn.out] at e
      rw [← e]
      exact hown

/-- what marking truths leaves -/
def MarkedB (A : Option Addr) (base hi n c : Nat) (k : Int) (w : World) (e : Ending) (w' : World) : Prop :=
  e = .returned (.int .i64 (k + n)) ∧ (∃ zs, OwnB w' base (.slice A n c) n zs) ∧ Within base hi w w'
set_option maxRecDepth 100000 in
set_option maxHeartbeats 400000 in
theorem markBoolS_one (g n c : Nat) (xs : List Bool) (k : Int) (w : World) (h : OwnB w g (.slice (some ⟨g, 0, none⟩) n c) n xs) (hn : n ≤ 1048576) (hk0 : 0 ≤ k) (hk1 : k ≤ 1073741824) :
    Calls Try.prog 36 #[.slice (some ⟨g, 0, none⟩) n c, .int .i64 k] w fun e w' => e = .returned (.int .i64 (k + n)) ∧ (∃ zs, OwnB w' g (.slice (some ⟨g, 0, none⟩) n c) n zs) ∧ w.grownBy w' (some g) := by
  go_enter Try.func36, Try.ntmps36
  go_wp2
  go_loopw [1, 5] (fun q i wr => ∃ j : Nat, j ≤ n ∧ i = .int .i64 j ∧ q = .int .i64 (k + j) ∧ (∃ zs, OwnB wr g (.slice (some ⟨g, 0, none⟩) n c) n zs) ∧ w.grownBy wr (some g)) (fun _ i _ => n - (intOf i).toNat)
  case atStart => exact ⟨0, Nat.zero_le _, rfl, by simp, ⟨xs, h⟩, World.grownBy.refl _ _⟩
  case round =>
    obtain ⟨j, hj, rfl, rfl, ⟨zs, hown⟩, hg⟩ := hrel
    by_cases hlt : j < n
    · obtain ⟨hc, hf⟩ := ownB_cell hown j hlt
      have hset := ownB_set hown j
      obtain ⟨b, hb⟩ : ∃ b, ((k + (j : Int)) % 3 == 0) = b := ⟨_, rfl⟩
      have hst := hset b
      have hnext : Hid (∃ zs, OwnB (wr.setCell ⟨g, j, none⟩ (.bool b)) g (.slice (some ⟨g, 0, none⟩) n c) n zs) := ⟨_, hst.1⟩
      have hgn : Hid (w.grownBy (wr.setCell ⟨g, j, none⟩ (.bool b)) (some g)) := only_trans hg hst.2
      clear hset hst hown hg
      go_wp2_with fail
      go_roundw
      case rel => exact ⟨j + 1, by omega, by go_num, by first | go_num | (congr 1; omega), hnext.out, hgn.out⟩
      case measure => simp [intOf]; omega
    · have hjn : j = n := by omega
      subst hjn
      go_wp2_with fail
      go_ret
      exact ⟨rfl, ⟨zs, hown⟩, hg⟩
theorem markBoolS_own (A : Option Addr) (base hi n c : Nat) (xs : List Bool) (k : Int) (w : World) (h : OwnB w base (.slice A n c) n xs) (hA : ∀ g, A = some ⟨g, 0, none⟩ → g < hi) (hn : n ≤ 1048576) (hk0 : 0 ≤ k) (hk1 : k ≤ 1073741824) :
    Calls Try.prog 36 #[.slice A n c, .int .i64 k] w (MarkedB A base hi n c k w) := by
  have h' := h
  rcases h'.2 with ⟨hv, h0⟩ | ⟨g, cap, cur, hv, hb, _⟩
  · injection hv with h1 h2 h3
    subst h1; subst h2; subst h3
    go_enter Try.func36, Try.ntmps36
    go_wp2
    go_loopw [1, 5] (fun q i wr => i = .int .i64 0 ∧ q = .int .i64 k ∧ Drawn w wr) (fun _ _ _ => 0)
    case atStart => exact ⟨rfl, rfl, Drawn.refl _⟩
    case round =>
      obtain ⟨rfl, rfl, hd⟩ := hrel
      go_wp2
      go_ret
      refine ⟨by simp, ⟨[], OwnB.nil _ _⟩, none, ?_, fun g hg => by cases hg⟩
      obtain ⟨m, rfl⟩ := hd
      exact only_drewN (World.grownBy.refl _ _) m
  · injection hv with h1 h2 h3
    subst h1; subst h3
    have hlt := hA g rfl
    refine (markBoolS_one g n _ xs k w ?_ hn hk0 hk1).mono ?_
    · refine ⟨h.1, ?_⟩
      rcases h.2 with ⟨hv, _⟩ | ⟨g', cap', cur', hv', hb', hrest⟩
      · cases hv
      · injection hv' with h1 h2 h3
        injection h1 with h1
        injection h1 with h1
        subst h1; subst h3
        exact .inr ⟨g, _, cur', rfl, Nat.le_refl _, hrest⟩
    · rintro e w' ⟨rfl, ⟨zs, hown⟩, hg⟩
      exact ⟨rfl, ⟨zs, hown.base hb⟩, some g, hg, fun g' hg' => by injection hg' with hg'; subst hg'; exact ⟨hb, hlt⟩⟩
theorem OwnB.within {lo hi base : Nat} {w w' : World} {v : Value} {n : Nat} {zs : List Bool} (h : OwnB w base v n zs) (hi' : hi ≤ base) (hw : Within lo hi w w') : OwnB w' base v n zs := own_within h hi' hw
end Go.Proofs.Ytjknokphdagpbaa
