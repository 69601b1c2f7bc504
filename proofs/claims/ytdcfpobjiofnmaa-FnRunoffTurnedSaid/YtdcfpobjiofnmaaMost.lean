/-
  The walks of the reference's l11Most and l11All: who has the greatest of some counts.
-/
import Derived.Test.YtdcfpobjiofnmaaLots
namespace Go.Proofs.Ytdcfpobjiofnmaa
set_option linter.unusedVariables false
open Go.RowKit

set_option maxRecDepth 100000 in
set_option maxHeartbeats 400000 in
theorem l11All_any (m : Nat) (w : World) (hm : m ≤ 1048576) :
    Calls Try.prog 50 #[.int .i64 (m : Int)] w (MadeB m (List.replicate m true) w) := by
  obtain ⟨i0, hi0, hz0, hz1, hz2⟩ := info_parts bool_info
  go_enter Try.func50, Try.ntmps50
  go_wp2
  go_loopw [3, 4] (fun v i wr => ∃ k : Nat, k ≤ m ∧ i = .int .i64 k ∧ (∃ A c, v = .slice A k c ∧ k ≤ c ∧ OwnB wr w.heap.size (.slice A k c) k (List.replicate k true)) ∧ Below w.heap.size w wr) (fun _ i _ => m - (intOf i).toNat)
  case atStart => exact ⟨0, Nat.zero_le _, rfl, ⟨_, 0, rfl, Nat.le_refl _, World.ownsRow_lit w #[] 0 (Nat.le_refl _) (by decide) rfl⟩, (by repeat (first | exact Below.refl _ _ | assumption | refine below_drewN ?_ _ | refine Below.drew ?_ | refine Below.alloc ?_ (by first | exact Nat.le_refl _ | omega | (simp; done) | (simp; omega)) _ | refine Below.setCell ?_ (by first | exact Nat.le_refl _ | omega | (simp; done) | (simp; omega)) _))⟩
  case round =>
    obtain ⟨k, hk, rfl, ⟨A, c, rfl, hkc, hown⟩, hb⟩ := hrel
    have hz := hb.size
    by_cases hlt : k < m
    · go_wp2_with (at_builtin; refine wpList_append_own _ rfl (.tmp 11) (.tmp 12) 61 rfl w.heap.size 4 i0 _ 1 1 Try.underlying61 hi0 hz0 hz1 hz2 rfl (by decide) (.slice A k c) k _ rfl (hown.row.alloc _) ⟨wr.heap.size, 0, none⟩ 1 1 [.bool true] rfl rfl (cell_one_new _ _ _) (by simp [Value.oneCell']) (by unfold maxLen; omega) (by omega) (by simp; omega) ?_; intro v1 w1 hown1 hg1 _; obtain ⟨A1, c1, rfl, hkc1⟩ := own_slice hown1)
      go_roundw
      case rel => exact ⟨k + 1, by omega, by go_num, ⟨A1, c1, rfl, hkc1, by unfold OwnB; rw [List.replicate_succ', List.map_append]; exact hown1⟩, (hb.alloc hz _).grown hg1 (by simp; omega) (fun g hg => (hown.row.lt g hg).1)⟩
      case measure => simp [intOf]; omega
    · have hkn : k = m := by omega
      subst hkn
      go_wp2_with fail
      go_ret
      exact ⟨A, c, rfl, hkc, hown, hb⟩

set_option maxRecDepth 100000 in
set_option maxHeartbeats 400000 in
theorem l11Most_any (A A' : Option Addr) (n c n' c' : Nat) (counts : List Int) (some : List Bool) (w : World) (h : Ints w w.heap.size A n counts) (h' : Bools w w.heap.size A' n' some) (hn : n ≤ 1048576) (hnn : n ≤ n') (q : Int) (hbd : Bp.Bd counts q) (hq : q ≤ 1000000) :
    Calls Try.prog 43 #[.slice A n c, .slice A' n' c'] w (MadeB n (Bp.mostOf counts some n) w) := by
  have hl := Lib.hid h.1
  have Hbd := Lib.hid hbd
  clear hbd
  obtain ⟨i0, hi0, hz0, hz1, hz2⟩ := info_parts bool_info
  go_enter Try.func43, Try.ntmps43
  go_wp2
  go_loop [5, 6] (fun b i => ∃ k : Nat, k ≤ n ∧ i = .int .i64 k ∧ b = .int .i64 (Bp.mostTo counts some k)) (fun _ i => n - (intOf i).toNat)
  case atStart => exact ⟨0, Nat.zero_le _, rfl, rfl⟩
  case round =>
    obtain ⟨k, hk, rfl, rfl⟩ := hrel
    by_cases hlt : k < n
    · obtain ⟨g, o, z, rfl, _, hc, hz⟩ := h.at hlt
      obtain ⟨g', o', y, rfl, _, hc', hy⟩ := h'.at (show k < n' by omega)
      have hk' : k < n' := by omega
      have Hs := Lib.hid (show Bp.mostTo counts some (k + 1) = if some.getD k false then max (Bp.mostTo counts some k) (counts.getD k 0) else Bp.mostTo counts some k from rfl)
      obtain ⟨x, hx⟩ : ∃ x, Bp.mostTo counts some k = x := ⟨_, rfl⟩
      rw [hx]
      have Hx := Lib.hid hx
      clear hx
      cases y
      · go_wp2_with fail
        go_round
        case rel => exact ⟨k + 1, by omega, by go_num, by rw [Hs.out, hy.out, Hx.out]; rfl⟩
        case measure => simp [intOf]; omega
      · go_wp2_with fail
        all_goals
          go_round
          case rel => exact ⟨k + 1, by omega, by go_num, by rw [Hs.out, hy.out, Hx.out, hz.out, if_pos rfl]; first | rfl | (congr 1; omega)⟩
          case measure => simp [intOf]; omega
    · have hkn : k = n := by omega
      have hm := Lib.hid (show Bp.mostTo counts some k = Bp.mostTo counts some counts.length by rw [hl.out, hkn])
      obtain ⟨x, hx⟩ : ∃ x, Bp.mostTo counts some counts.length = x := ⟨_, rfl⟩
      rw [hm.out, hx]
      have Hx := Lib.hid hx
      clear hx hkn
      go_wp2_with fail
      go_loopw [7, 8] (fun v i wr => ∃ k : Nat, k ≤ n ∧ i = .int .i64 k ∧ (∃ A c, v = .slice A k c ∧ k ≤ c ∧ OwnB wr w.heap.size (.slice A k c) k (Bp.mostOf counts some k)) ∧ Below w.heap.size w wr) (fun _ i _ => n - (intOf i).toNat)
      case atStart => exact ⟨0, Nat.zero_le _, rfl, ⟨_, 0, rfl, Nat.le_refl _, World.ownsRow_lit w #[] 0 (Nat.le_refl _) (by decide) rfl⟩, (by repeat (first | exact Below.refl _ _ | assumption | refine below_drewN ?_ _ | refine Below.drew ?_ | refine Below.alloc ?_ (by first | exact Nat.le_refl _ | omega | (simp; done) | (simp; omega)) _ | refine Below.setCell ?_ (by first | exact Nat.le_refl _ | omega | (simp; done) | (simp; omega)) _))⟩
      case round =>
        obtain ⟨k, hk, rfl, ⟨A2, c2, rfl, hkc, hown⟩, hb⟩ := hrel
        have hz := hb.size
        by_cases hlt : k < n
        · obtain ⟨g, o, z, rfl, _, hc, hz'⟩ := (h.below hb).at hlt
          obtain ⟨g', o', y, rfl, _, hc', hy⟩ := (h'.below hb).at (show k < n' by omega)
          have hk' : k < n' := by omega
          have Hs := Lib.hid (Bp.mostOf_succ counts some k)
          cases y
          · go_wp2_with (at_builtin; refine wpList_append_own _ rfl (.tmp 32) (.tmp 45) 61 rfl w.heap.size 4 i0 _ 1 1 Try.underlying61 hi0 hz0 hz1 hz2 rfl (by decide) (.slice A2 k c2) k _ rfl (hown.row.alloc _) ⟨wr.heap.size, 0, none⟩ 1 1 [.bool false] rfl rfl (cell_one_new _ _ _) (by simp [Value.oneCell']) (by unfold maxLen; omega) (by omega) (by simp; omega) ?_; intro v1 w1 hown1 hg1 _; obtain ⟨A1, c1, rfl, hkc1⟩ := own_slice hown1)
            go_roundw
            case rel => exact ⟨k + 1, by omega, by go_num, ⟨A1, c1, rfl, hkc1, by unfold OwnB; rw [Hs.out, hy.out, Bool.false_and, List.map_append]; exact hown1⟩, (hb.alloc hz _).grown hg1 (by simp; omega) (fun g hg => (hown.row.lt g hg).1)⟩
            case measure => simp [intOf]; omega
          · cases he : (z == x)
            all_goals
              have He := Lib.hid he
              go_wp2_with (at_builtin; refine wpList_append_own _ rfl (.tmp 32) (.tmp 45) 61 rfl w.heap.size 4 i0 _ 1 1 Try.underlying61 hi0 hz0 hz1 hz2 rfl (by decide) (.slice A2 k c2) k _ rfl (hown.row.alloc _) ⟨wr.heap.size, 0, none⟩ 1 1 [.bool _] rfl rfl (cell_one_new _ _ _) (by simp [Value.oneCell']) (by unfold maxLen; omega) (by omega) (by simp; omega) ?_; intro v1 w1 hown1 hg1 _; obtain ⟨A1, c1, rfl, hkc1⟩ := own_slice hown1)
              go_roundw
              case rel => exact ⟨k + 1, by omega, by go_num, ⟨A1, c1, rfl, hkc1, by unfold OwnB; rw [Hs.out, hy.out, Bool.true_and, hz'.out, Hx.out, He.out, List.map_append]; exact hown1⟩, (hb.alloc hz _).grown hg1 (by simp; omega) (fun g hg => (hown.row.lt g hg).1)⟩
              case measure => simp [intOf]; omega
        · have hkn : k = n := by omega
          subst hkn
          go_wp2_with fail
          go_ret
          exact ⟨A2, c2, rfl, hkc, hown, hb⟩
end Go.Proofs.Ytdcfpobjiofnmaa
