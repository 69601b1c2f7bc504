/-
  The walks of BallotParse, in the program and in the reference, and of what rests on it alone.
-/
import Derived.Test.YtiglkajafdecgaaBallotSpec
namespace Go.Proofs.Ytiglkajafdecgaa
set_option linter.unusedVariables false
open Go.RowKit

theorem int_info : (Try.prog.info? 3).map (fun i => (i.zero, i.size, i.bytes)) = some (some (.int .i64 0), 1, 8) := by kernel_rfl

/-- what a parsed ballot leaves: a slice of the call's own -/
def Parsed (s : ByteArray) (w : World) (e : Ending) (w' : World) : Prop :=
  ∃ (A : Option Addr) (n c : Nat), e = .returned (.tuple #[.slice A n c, .bool (Bp.pok s)]) ∧ n ≤ c ∧ Own w' w.heap.size (.slice A n c) n (Bp.bal s) ∧ Below w.heap.size w w'

set_option maxRecDepth 100000 in
set_option maxHeartbeats 400000 in
theorem iBallotParse_any (s : ByteArray) (w : World) (hs : s.size ≤ 1048576) :
    Calls Try.prog 32 #[.string s] w (Parsed s w) := by
  obtain ⟨i0, hi0, hz0, hz1, hz2⟩ := info_parts int_info
  go_enter Try.func32, Try.ntmps32
  go_wp2
  go_loopw [4, 8] (fun v i wr => ∃ k : Nat, k ≤ s.size ∧ k ≤ 5 ∧ i = .int .i64 k ∧ (∃ A c, v = .slice A k c ∧ k ≤ c ∧ Own wr w.heap.size (.slice A k c) k ((Bp.parse s).take k)) ∧ Below w.heap.size w wr) (fun _ i _ => s.size - (intOf i).toNat)
  case atStart => exact ⟨0, Nat.zero_le _, Nat.zero_le _, rfl, ⟨none, 0, rfl, Nat.le_refl _, Own.nil _ _⟩, Below.refl _ _⟩
  case round =>
    obtain ⟨k, hk, hk5, rfl, ⟨A, c, rfl, hkc, hown⟩, hb⟩ := hrel
    by_cases hlt : k < s.size
    · have hsn := Lib.hid (Bp.parse_snoc s k hlt)
      have hz := hb.size
      obtain ⟨b, hsb⟩ : ∃ b : UInt8, s[k] = b := ⟨_, rfl⟩
      have hby : (b.toNat : Int) ≤ 255 := by have := UInt8.toNat_lt b; omega
      go_wp2_with (at_builtin; refine wpList_append_own _ rfl (.tmp 11) (.tmp 17) 23 rfl w.heap.size 3 i0 _ 1 8 Try.underlying23 hi0 hz0 hz1 hz2 rfl (by decide) (.slice A k c) k _ rfl (hown.row.alloc _) ⟨wr.heap.size, 0, none⟩ 1 1 [.int .i64 ((b.toNat : Int) - 97)] rfl rfl (cell_one_new _ _ _) (by simp [Value.oneCell']) (by unfold maxLen; omega) (by omega) (by simp; omega) ?_; intro v1 w1 hown1 hg1 _; obtain ⟨A1, c1, rfl, hkc1⟩ := own_slice hown1)
      · have h5 : 5 ≤ k := by have : (5 : Int) ≤ k := by assumption
                              omega
        go_ret2
        have hno := Bp.pok_long s (by omega)
        exact ⟨none, 0, 0, by rw [hno]; rfl, Nat.le_refl _, by rw [Bp.bal_no s hno]; exact Own.nil _ _, (hb.alloc hz _).grown hg1 (by simp; omega) (fun g hg => (hown.row.lt g hg).1)⟩
      · have h5 : k < 5 := by have : (k : Int) < 5 := by assumption
                              omega
        go_roundw
        case rel => exact ⟨k + 1, by omega, by omega, by go_num, ⟨A1, c1, rfl, hkc1, by unfold Own; rw [hsn.out, hsb, List.map_append]; exact hown1⟩, (hb.alloc hz _).grown hg1 (by simp; omega) (fun g hg => (hown.row.lt g hg).1)⟩
        case measure => simp [intOf]; omega
    · have hkk : k = s.size := by omega
      have hval : Own wr w.heap.size (.slice A k c) k (Bp.parse s) := by
        have := Bp.parse_all s
        rw [← hkk] at this
        rw [← this]; exact hown
      have Hkk := Lib.hid hkk
      clear hkk
      cases hp : Bp.bval (Bp.parse s) 5
      · have Hp := Lib.hid (show Bp.pok s = false from hp)
        go_wp2_with (go_at_call 49; refine (iBallotValid_any _ _ _ _ _ _ _ hval.ints (by omega) hkc).mono ?_; rintro e w' ⟨rfl, rfl⟩)
        go_ret2
        exact ⟨none, 0, 0, by rw [Hp.out]; rfl, Nat.le_refl _, by rw [Bp.bal_no s Hp.out]; exact Own.nil _ _, hb⟩
      · have Hp := Lib.hid (show Bp.pok s = true from hp)
        go_wp2_with (go_at_call 49; refine (iBallotValid_any _ _ _ _ _ _ _ hval.ints (by omega) hkc).mono ?_; rintro e w' ⟨rfl, rfl⟩)
        go_ret2
        exact ⟨A, k, c, by rw [Hp.out]; rfl, hkc, by rw [Bp.bal_yes s Hp.out]; exact hval, hb⟩

set_option maxRecDepth 100000 in
set_option maxHeartbeats 400000 in
theorem sBallotParse_any (s : ByteArray) (w : World) (hs : s.size ≤ 1048576) :
    Calls Try.prog 73 #[.string s] w (Parsed s w) := by
  obtain ⟨i0, hi0, hz0, hz1, hz2⟩ := info_parts int_info
  go_enter Try.func73, Try.ntmps73
  go_wp2
  go_loopw [4, 5] (fun v i wr => ∃ k : Nat, k ≤ s.size ∧ i = .int .i64 k ∧ (∃ A c, v = .slice A k c ∧ k ≤ c ∧ Own wr w.heap.size (.slice A k c) k ((Bp.parse s).take k)) ∧ Below w.heap.size w wr) (fun _ i _ => s.size - (intOf i).toNat)
  case atStart => exact ⟨0, Nat.zero_le _, rfl, ⟨_, 0, rfl, Nat.le_refl _, World.ownsRow_lit w #[] 0 (Nat.le_refl _) (by decide) rfl⟩, (by repeat (first | exact Below.refl _ _ | assumption | refine below_drewN ?_ _ | refine Below.drew ?_ | refine Below.alloc ?_ (by first | exact Nat.le_refl _ | omega | (simp; done) | (simp; omega)) _ | refine Below.setCell ?_ (by first | exact Nat.le_refl _ | omega | (simp; done) | (simp; omega)) _))⟩
  case round =>
    obtain ⟨k, hk, rfl, ⟨A, c, rfl, hkc, hown⟩, hb⟩ := hrel
    by_cases hlt : k < s.size
    · have hsn := Lib.hid (Bp.parse_snoc s k hlt)
      have hz := hb.size
      obtain ⟨b, hsb⟩ : ∃ b : UInt8, s[k] = b := ⟨_, rfl⟩
      have hby : (b.toNat : Int) ≤ 255 := by have := UInt8.toNat_lt b; omega
      go_wp2_with (at_builtin; refine wpList_append_own _ rfl (.tmp 13) (.tmp 19) 23 rfl w.heap.size 3 i0 _ 1 8 Try.underlying23 hi0 hz0 hz1 hz2 rfl (by decide) (.slice A k c) k _ rfl (hown.row.alloc _) ⟨wr.heap.size, 0, none⟩ 1 1 [.int .i64 ((b.toNat : Int) - 97)] rfl rfl (cell_one_new _ _ _) (by simp [Value.oneCell']) (by unfold maxLen; omega) (by omega) (by simp; omega) ?_; intro v1 w1 hown1 hg1 _; obtain ⟨A1, c1, rfl, hkc1⟩ := own_slice hown1)
      go_roundw
      case rel => exact ⟨k + 1, by omega, by go_num, ⟨A1, c1, rfl, hkc1, by unfold Own; rw [hsn.out, hsb, List.map_append]; exact hown1⟩, (hb.alloc hz _).grown hg1 (by simp; omega) (fun g hg => (hown.row.lt g hg).1)⟩
      case measure => simp [intOf]; omega
    · have hkk : k = s.size := by omega
      have hval : Own wr w.heap.size (.slice A k c) k (Bp.parse s) := by
        have := Bp.parse_all s
        rw [← hkk] at this
        rw [← this]; exact hown
      have Hkk := Lib.hid hkk
      clear hkk
      have hz := hb.size
      cases hp : Bp.bval (Bp.parse s) 5
      · have Hp := Lib.hid (show Bp.pok s = false from hp)
        go_wp2_with (go_at_call 74; refine (sBallotValid_any _ _ _ _ _ _ _ hval.ints (by omega) hkc).mono ?_; rintro e w' ⟨rfl, hd⟩; obtain ⟨nd, rfl⟩ := hd)
        go_ret2
        exact ⟨_, 0, 0, by rw [Hp.out]; rfl, Nat.le_refl _, by rw [Bp.bal_no s Hp.out]; exact World.ownsRow_lit _ #[] 0 hz (by decide) rfl, (by repeat (first | exact Below.refl _ _ | assumption | refine below_drewN ?_ _ | refine Below.drew ?_ | refine Below.alloc ?_ (by first | exact Nat.le_refl _ | omega | (simp; done) | (simp; omega)) _ | refine Below.setCell ?_ (by first | exact Nat.le_refl _ | omega | (simp; done) | (simp; omega)) _))⟩
      · have Hp := Lib.hid (show Bp.pok s = true from hp)
        go_wp2_with (go_at_call 74; refine (sBallotValid_any _ _ _ _ _ _ _ hval.ints (by omega) hkc).mono ?_; rintro e w' ⟨rfl, hd⟩; obtain ⟨nd, rfl⟩ := hd)
        go_ret2
        exact ⟨A, k, c, by rw [Hp.out]; rfl, hkc, by rw [Bp.bal_yes s Hp.out]; exact hval, (by repeat (first | exact Below.refl _ _ | assumption | refine below_drewN ?_ _ | refine Below.drew ?_ | refine Below.alloc ?_ (by first | exact Nat.le_refl _ | omega | (simp; done) | (simp; omega)) _ | refine Below.setCell ?_ (by first | exact Nat.le_refl _ | omega | (simp; done) | (simp; omega)) _))⟩
end Go.Proofs.Ytiglkajafdecgaa
