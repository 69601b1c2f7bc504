/-
  The walks of the program's PilesAdd: piles and one more pile.
-/
import Derived.Test.YtdcfpobjiofnmaaPilesOf
namespace Go.Proofs.Ytdcfpobjiofnmaa
set_option linter.unusedVariables false
open Go.RowKit

theorem iPilesValid_yes (A : Option Addr) (n c : Nat) (ps : List Bp.Pile) (w : World) (h : Piles w w.heap.size A n ps) (hn : n ≤ 1048576) (hnc : n ≤ c) (hv : Bp.psval ps = true) :
    Calls Try.prog 34 #[.slice A n c] w fun e w' => e = .returned (.bool true) ∧ Below w.heap.size w w' :=
  (iPilesValid_any A n c ps w h hn hnc).mono fun e w' ⟨he, hb⟩ => ⟨by rw [he, hv], hb⟩
theorem pileValid_yes (s : ByteArray) (m : Int) (w : World) (hs : s.size ≤ 1048576) (hv : Bp.pval (s, m) = true) :
    Calls Try.prog 45 #[.agg #[.string s, .int .i64 m]] w fun e w' => e = .returned (.bool true) ∧ Below w.heap.size w w' :=
  (pileValid_any s m w hs).mono fun e w' ⟨he, hb⟩ => ⟨by rw [he, hv], hb⟩
/-- one pile in a block of its own -/
theorem pile_one (w : World) (s : ByteArray) (m : Int) (t : TypeId) (hs : s.size ≤ 1048576) : Piles (w.alloc (.cells #[.string s, .int .i64 m] t)) (w.heap.size + 1) (some ⟨w.heap.size, 0, none⟩) 1 [(s, m)] :=
  ⟨⟨rfl, fun p hp => by rw [List.mem_singleton.1 hp]; exact hs⟩, fun _ => ⟨_, _, rfl, by omega, fun k hk => by
    have e : k = 0 := by omega
    subst e
    have h0 := pair_new w (.string s) (.int .i64 m) t 0 _ rfl
    have h1 := pair_new w (.string s) (.int .i64 m) t 1 _ rfl
    rw [add_zero_off] at h0 h1
    exact ⟨h0, h1⟩⟩⟩
/-- a list of piles and one pile, in a literal of two -/
theorem plists_two (w : World) (A : Option Addr) (n c : Nat) (ps : List Bp.Pile) (s : ByteArray) (m : Int) (tp ts : TypeId) (h : Piles w w.heap.size A n ps) (hnc : n ≤ c) (hs : s.size ≤ 1048576) :
    PLists ((w.alloc (.cells #[.string s, .int .i64 m] tp)).alloc (.cells #[.slice A n c, .slice (some ⟨w.heap.size, 0, none⟩) 1 1] ts)) ((w.alloc (.cells #[.string s, .int .i64 m] tp)).alloc (.cells #[.slice A n c, .slice (some ⟨w.heap.size, 0, none⟩) 1 1] ts)).heap.size (w.heap.size + 1) 0 2 [ps, [(s, m)]] := by
  obtain ⟨w1, hw1⟩ : ∃ w1, w.alloc (.cells #[.string s, .int .i64 m] tp) = w1 := ⟨_, rfl⟩
  have hz : w1.heap.size = w.heap.size + 1 := by rw [← hw1]; simp
  have hb : Below w.heap.size w w1 := by rw [← hw1]; exact (Below.refl _ _).alloc (Nat.le_refl _) _
  have hp := pile_one w s m tp hs
  rw [hw1, ← hz] at hp
  rw [hw1, ← hz]
  have h1 : Piles w1 w1.heap.size A n ps := (h.below hb).mono (by omega)
  have hb2 : ∀ o : Obj, Below w1.heap.size w1 (w1.alloc o) := fun o => (Below.refl _ _).alloc (Nat.le_refl _) o
  have h0 := pair_new w1 (.slice A n c) (.slice (some ⟨w.heap.size, 0, none⟩) 1 1) ts 0 _ rfl
  have h2 := pair_new w1 (.slice A n c) (.slice (some ⟨w.heap.size, 0, none⟩) 1 1) ts 1 _ rfl
  rw [add_zero_off] at h0 h2
  refine ⟨rfl, by simp, fun k hk => ?_⟩
  rcases (show k = 0 ∨ k = 1 by omega) with rfl | rfl
  · exact ⟨A, n, c, h0, hnc, (h1.below (hb2 _)).mono (by simp)⟩
  · exact ⟨_, 1, 1, h2, Nat.le_refl _, (hp.below (hb2 _)).mono (by simp)⟩
theorem flat_two {α : Type} (a b : List α) : [a, b].flatten = a ++ b := by simp
/-- what holds of all valid piles -/
theorem psval_mem {ps : List Bp.Pile} (hv : Bp.psval ps = true) : ∀ p ∈ ps, Bp.pval p = true := fun p hp => by
  obtain ⟨k, hk, rfl⟩ := List.getElem_of_mem hp
  have := Bp.psval_at ps hv k hk
  rwa [show ps.getD k default = ps[k] by simp [List.getD, hk]] at this
set_option maxRecDepth 100000 in
set_option maxHeartbeats 4000000 in
theorem iPilesAdd_yes (A : Option Addr) (n c : Nat) (ps : List Bp.Pile) (s : ByteArray) (m : Int) (w : World) (h : Piles w w.heap.size A n ps) (hn : n ≤ 100) (hnc : n ≤ c) (hs : s.size ≤ 1048576) (hv : Bp.psval ps = true) (hp : Bp.pval (s, m) = true) :
    Calls Try.prog 17 #[.slice A n c, .string s, .int .i64 m] w (MergedRes (ps ++ [(s, m)]) w) := by
  have hl := Lib.hid h.1.1
  have Hv := Lib.hid hv
  have Hp := Lib.hid hp
  clear hv hp
  go_enter Try.func17, Try.ntmps17
  go_wp2_with (first
    | (go_at_call 34; refine (iPilesValid_yes A n c ps _ ((h.below (by repeat (first | exact Below.refl _ _ | assumption | refine below_drewN ?_ _ | refine Below.drew ?_ | refine Below.alloc ?_ (by first | exact Nat.le_refl _ | omega | (simp; done) | (simp; omega)) _ | refine Below.setCell ?_ (by first | exact Nat.le_refl _ | omega | (simp; done) | (simp; omega)) _))).mono (by first | omega | (simp; done) | (simp; omega))) (by omega) hnc Hv.out).mono ?_; rintro e w1 ⟨rfl, hb1⟩; have c0 : w1.cell? ⟨w.heap.size, 0, none⟩ = some (.string s) := cell_later hb1 (by simp [go_sem]); have c1 : w1.cell? ⟨w.heap.size, 1, none⟩ = some (.int .i64 m) := cell_later hb1 (by simp [go_sem]); have hs1 : w.heap.size + 1 ≤ w1.heap.size := (by have := hb1.size; simpa using this))
    | (go_at_call 45; refine (pileValid_yes s m _ hs Hp.out).mono ?_; rintro e w2 ⟨rfl, hb2⟩; have d0 : w2.cell? ⟨w.heap.size, 0, none⟩ = some (.string s) := cell_later hb2 c0; have d1 : w2.cell? ⟨w.heap.size, 1, none⟩ = some (.int .i64 m) := cell_later hb2 c1; have hs2 := hb2.size; have hB2 : Below w.heap.size w w2 := (((Below.refl _ _).alloc (Nat.le_refl _) _).trans (hb1.mono (by simp))).trans (hb2.mono (by omega)); clear c0 c1)
    | (go_at_call 36; with_reducible refine (iPilesOf_any (w2.heap.size + 1) 0 2 2 [ps, [(s, m)]] _ ?_ ?_ ?_ ?_ ?_).mono ?_; rotate_left 5))
  · rintro e w3 ⟨A3, n3, c3, qs, rfl, hnc3, hn3, hM, hord, hP, hb3⟩
    go_wp2_with fail
    go_ret2
    rw [flat_two] at hM
    exact ⟨A3, n3, c3, qs, rfl, hnc3, hn3, hM, hord, hP, ((hB2.alloc (by omega) _).alloc (by simp; omega) _).trans (hb3.mono (by simp; omega))⟩
  · exact plists_two _ A n c ps s m _ _ ((h.below hB2).mono (by omega)) hnc hs
  · omega
  · rw [flat_two, List.length_append, hl.out]
    simp only [List.length_cons, List.length_nil]
    omega
  · rw [flat_two]
    intro p hp
    rcases List.mem_append.1 hp with h1 | h1
    · have := (Bp.pval_iff _).1 (psval_mem Hv.out p h1); omega
    · rw [List.mem_singleton.1 h1]
      have := (Bp.pval_iff _).1 Hp.out; omega
  · rw [flat_two]
    intro p hp
    rcases List.mem_append.1 hp with h1 | h1
    · exact h.1.2 p h1
    · rw [List.mem_singleton.1 h1]
      exact hs
end Go.Proofs.Ytdcfpobjiofnmaa
