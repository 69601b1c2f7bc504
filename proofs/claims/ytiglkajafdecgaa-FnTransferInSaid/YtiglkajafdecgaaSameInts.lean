/-
  The walk of the laws' sameInts.
-/
import Derived.Test.YtiglkajafdecgaaSmall
namespace Go.Proofs.Ytiglkajafdecgaa
set_option linter.unusedVariables false
open Go.RowKit

theorem ints_same (xs ys : List Int) (hl : xs.length = ys.length) (h : ∀ j, j < xs.length → xs.getD j 0 = ys.getD j 0) : xs = ys := by
  apply List.ext_getElem hl
  intro j h1 h2
  have := h j h1
  simpa [List.getD, h1, h2] using this
set_option maxRecDepth 100000 in
set_option maxHeartbeats 400000 in
theorem sameInts_any (A A' : Option Addr) (n c n' c' : Nat) (xs ys : List Int) (B B' : Nat) (w : World) (h : Ints w B A n xs) (h' : Ints w B' A' n' ys) (hn : n ≤ 4611686018427387904) :
    Calls Try.prog 31 #[.slice A n c, .slice A' n' c'] w fun e w' => e = .returned (.bool (decide (xs = ys))) ∧ Drawn w w' := by
  have hl := Lib.hid h.1
  have hl' := Lib.hid h'.1
  by_cases hne : n = n'
  · have d0 : ((n : Int) != (n' : Int)) = false := by simp; omega
    have Hne := Lib.hid hne
    have Hle : n ≤ n' := by omega
    clear hne
    go_enter Try.func31, Try.ntmps31
    go_wp2
    go_loopw [5] (fun i wr => ∃ k : Nat, k ≤ n ∧ i = .int .i64 k ∧ Hid (∀ j, j < k → xs.getD j 0 = ys.getD j 0) ∧ Drawn w wr) (fun i _ => n - (intOf i).toNat)
    case atStart => exact ⟨0, Nat.zero_le _, rfl, fun j hj => absurd hj (by omega), Drawn.refl w⟩
    case round =>
      obtain ⟨k, hk, rfl, hq, hd⟩ := hrel
      by_cases hlt : k < n
      · obtain ⟨g, o, z, rfl, _, hc, hz⟩ := (h.below (hd.below B)).at hlt
        obtain ⟨g', o', z', rfl, _, hc', hz'⟩ := (h'.below (hd.below B')).at (show k < n' by omega)
        have hlt' : k < n' := by omega
        have hi1 : (0 : Int) ≤ (k : Int) := by omega
        have hi2 : (k : Int) < (n : Int) := by omega
        have hi3 : (k : Int) < (n' : Int) := by omega
        by_cases hzz : z = z'
        · have hb : (z != z') = false := by simpa using hzz
          have Hzz := Lib.hid hzz
          clear hzz
          go_wp2_with fail
          go_quiet (fail)
          go_wp2_with fail
          go_roundw
          case rel => exact ⟨k + 1, by omega, by go_num, fun j hj => by
            by_cases hj' : j = k
            · subst hj'; rw [hz.out, hz'.out]; exact Hzz.out
            · exact hq.out j (by omega), hd.drewN _⟩
          case measure => simp [intOf]; omega
        · have hb : (z != z') = true := by simpa using hzz
          have Hzz := Lib.hid hzz
          clear hzz
          go_wp2_with fail
          go_quiet (fail)
          go_wp2_with fail
          go_ret
          exact ⟨ret_bool (by
            symm
            rw [decide_eq_false_iff_not]
            intro e
            apply Hzz.out
            rw [← hz.out, ← hz'.out, e]), hd.drewN _⟩
      · go_wp2_with fail
        go_ret
        exact ⟨ret_bool (by
          symm
          rw [decide_eq_true_iff]
          exact ints_same _ _ (by rw [hl.out, hl'.out, Hne.out]) (fun j hj => hq.out j (by rw [hl.out] at hj; omega))), hd⟩
  · have d0 : ((n : Int) != (n' : Int)) = true := by simp; omega
    have Hne := Lib.hid hne
    clear hne
    go_enter Try.func31, Try.ntmps31
    go_wp2_with fail
    go_ret
    exact ⟨ret_bool (by
      symm
      rw [decide_eq_false_iff_not]
      intro e
      apply Hne.out
      rw [← hl.out, ← hl'.out, e]), Drawn.refl w⟩
end Go.Proofs.Ytiglkajafdecgaa
