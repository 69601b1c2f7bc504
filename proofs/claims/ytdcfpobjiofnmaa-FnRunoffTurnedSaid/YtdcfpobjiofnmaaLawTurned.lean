/-
  The walks of what exchanges two candidates in the statements.
-/
import Derived.Test.YtdcfpobjiofnmaaTurnSum
import Derived.Test.YtdcfpobjiofnmaaLawMem
namespace Go.Proofs.Ytdcfpobjiofnmaa
set_option linter.unusedVariables false
open Go.RowKit

set_option maxRecDepth 100000 in
set_option maxHeartbeats 400000 in
theorem turned_any (z x y : Int) (w : World) :
    Calls Try.prog 13 #[.int .i64 z, .int .i64 x, .int .i64 y] w fun e w' => e = .returned (.int .i64 (Bp.sw x y z)) ∧ w = w' := by
  by_cases h1 : z = x
  · have e : Bp.sw x y z = y := by unfold Bp.sw; rw [if_pos h1]
    rw [e]
    have b1 : (z == x) = true := by rw [beq_iff_eq]; exact h1
    clear e h1
    go_enter Try.func13, Try.ntmps13
    go_wp2_with fail
    go_ret
    exact ⟨rfl, rfl⟩
  · have b1 : (z == x) = false := by rw [beq_eq_false_iff_ne]; exact h1
    by_cases h2 : z = y
    · have e : Bp.sw x y z = x := by unfold Bp.sw; rw [if_neg h1, if_pos h2]
      rw [e]
      have b2 : (z == y) = true := by rw [beq_iff_eq]; exact h2
      clear e h1 h2
      go_enter Try.func13, Try.ntmps13
      go_wp2_with fail
      go_ret
      exact ⟨rfl, rfl⟩
    · have e : Bp.sw x y z = z := by unfold Bp.sw; rw [if_neg h1, if_neg h2]
      rw [e]
      have b2 : (z == y) = false := by rw [beq_eq_false_iff_ne]; exact h2
      clear e h1 h2
      go_enter Try.func13, Try.ntmps13
      go_wp2_with fail
      go_ret
      exact ⟨rfl, rfl⟩
set_option maxRecDepth 100000 in
set_option maxHeartbeats 400000 in
theorem turnedAll_any (A : Option Addr) (n c : Nat) (zs : List Int) (x y : Int) (w : World) (h : Ints w w.heap.size A n zs) (hn : n ≤ 1000) (hnc : n ≤ c) :
    Calls Try.prog 18 #[.slice A n c, .int .i64 x, .int .i64 y] w fun e w' => ∃ (A' : Option Addr) (c' : Nat), e = .returned (.slice A' n c') ∧ n ≤ c' ∧ Own w' w.heap.size (.slice A' n c') n (zs.map (Bp.sw x y)) ∧ Below w.heap.size w w' := by
  have hl := Lib.hid h.1
  obtain ⟨i0, hi0, hz0, hz1, hz2⟩ := info_parts int_info
  go_enter Try.func18, Try.ntmps18
  go_wp2_with fail
  go_loopw [7, 8] (fun v i wr => ∃ (k : Nat) (A3 : Option Addr) (c3 : Nat), v = .slice A3 k c3 ∧ i = .int .i64 k ∧ k ≤ n ∧ k ≤ c3 ∧ Own wr w.heap.size (.slice A3 k c3) k ((zs.map (Bp.sw x y)).take k) ∧ Below w.heap.size w wr) (fun _ i _ => n - (intOf i).toNat)
  case atStart => exact ⟨0, _, 0, rfl, rfl, Nat.zero_le _, Nat.le_refl _, World.ownsRow_lit w #[] _ (Nat.le_refl _) (by decide) rfl, (Below.refl _ _).alloc (Nat.le_refl _) _⟩
  case round =>
    obtain ⟨k, A3, c3, rfl, rfl, hk, hkc, hR, hb⟩ := hrel
    have hz := hb.size
    by_cases hlt : k < n
    · obtain ⟨g, o, z, rfl, hg, hc, hp⟩ := (h.below hb).at hlt
      have hkp : k < zs.length := by rw [hl.out]; exact hlt
      have hrow := hR.row
      have i3 : (0 : Int) ≤ (k : Int) := by omega
      have i4 : (k : Int) < (n : Int) := by omega
      have i5 : (k : Int) ≤ 1000 := by omega
      clear hR
      go_wp2_with (first
        | (go_at_call 13; refine (turned_any z x y _).mono ?_; rintro e w' ⟨rfl, rfl⟩)
        | (at_builtin; refine wpList_append_own_at _ rfl (.tmp 16) (.tmp 24) 31 rfl w.heap.size 3 i0 _ 1 8 Try.underlying31 hi0 hz0 hz1 hz2 rfl (by decide) (.slice A3 k c3) k _ rfl (hrow.alloc _) ⟨wr.heap.size, 0, none⟩ 1 1 [.int .i64 (Bp.sw x y z)] rfl rfl (cell_one_new _ _ _) (by simp [Value.oneCell']) (by unfold maxLen; omega) (by omega) (by simp; omega) ?_; intro v1 w6 hown6 hg6 _ _; obtain ⟨A4, c4, rfl, hkc1⟩ := own_slice hown6))
      go_roundw
      case rel =>
        refine ⟨k + 1, A4, c4, rfl, by go_num, by omega, hkc1, ?_, (hb.alloc (by omega) _).grown hg6 (by simp; omega) (fun g hg => (hrow.lt g hg).1)⟩
        have e : (zs.map (Bp.sw x y)).take (k + 1) = (zs.map (Bp.sw x y)).take k ++ [Bp.sw x y z] := by
          have h1 : k < (zs.map (Bp.sw x y)).length := by rw [List.length_map]; exact hkp
          rw [List.take_succ_eq_append_getElem h1, List.getElem_map]
          have h2 : zs[k] = z := by rw [← hp.out, Bp.getD_get _ _ hkp]
          rw [h2]
        rw [e]
        unfold Own
        rw [List.map_append]
        exact hown6
      case measure => simp [intOf]; omega
    · have hkn : k = n := by omega
      rw [List.take_of_length_le (by rw [List.length_map, hl.out]; omega)] at hR
      subst hkn
      go_wp2_with fail
      go_ret
      exact ⟨A3, c3, rfl, hkc, hR, hb⟩
end Go.Proofs.Ytdcfpobjiofnmaa
