/-
  The walks of what asks whether a ballot is one: slices.Index, slices.Contains, isMany, BallotValid, and the reference's l1Has, BallotValid.
-/
import Derived.Test.YtiglkajafdecgaaBase
import Derived.Test.YtiglkajafdecgaaBallotPlain
namespace Go.Proofs.Ytiglkajafdecgaa
set_option linter.unusedVariables false
open Go.RowKit

set_option maxRecDepth 100000 in
set_option maxHeartbeats 400000 in
theorem index_any (A : Option Addr) (n c : Nat) (x : Int) (zs : List Int) (B : Nat) (w : World) (h : Ints w B A n zs) (hn : n ≤ 4611686018427387904) :
    Calls Try.prog 87 #[.slice A n c, .int .i64 x] w fun e w' => e = .returned (.int .i64 (Bp.idx zs x)) ∧ w = w' := by
  have hl := Lib.hid h.1
  go_enter Try.func87, Try.ntmps87
  go_wp2
  go_loop [8] (fun i => ∃ k : Nat, k ≤ n ∧ i = .int .i64 k ∧ Hid (∀ j, j < k → zs.getD j 0 ≠ x)) (fun i => n - (intOf i).toNat)
  case atStart => exact ⟨0, Nat.zero_le _, rfl, fun j hj => absurd hj (by omega)⟩
  case round =>
    obtain ⟨k, hk, rfl, hq⟩ := hrel
    by_cases hlt : k < n
    · obtain ⟨g, o, z, rfl, _, hc, hz⟩ := h.at hlt
      by_cases hx : x = z
      · have hb : (x == z) = true := by simpa using hx
        have Hx := Lib.hid hx
        clear hx
        go_wp2
        go_ret
        exact ⟨ret_int (Bp.idx_found zs x k (by rw [hl.out]; exact hlt) (by rw [hz.out, Hx.out]) hq.out).symm, rfl⟩
      · have hb : (x == z) = false := by simpa using hx
        have Hx := Lib.hid hx
        clear hx
        go_wp2
        go_round
        case rel => exact ⟨k + 1, by omega, by go_num, fun j hj => by
          by_cases hj' : j = k
          · subst hj'; rw [hz.out]; exact fun e => Hx.out e.symm
          · exact hq.out j (by omega)⟩
        case measure => simp [intOf]; omega
    · go_wp2
      go_ret
      exact ⟨ret_int (Bp.idx_none zs x (fun j hj => hq.out j (by rw [hl.out] at hj; omega))).symm, rfl⟩

set_option maxRecDepth 100000 in
set_option maxHeartbeats 400000 in
theorem contains_any (A : Option Addr) (n c : Nat) (x : Int) (zs : List Int) (B : Nat) (w : World) (h : Ints w B A n zs) (hn : n ≤ 4611686018427387904) :
    Calls Try.prog 71 #[.slice A n c, .int .i64 x] w fun e w' => e = .returned (.bool (Bp.has zs x)) ∧ w = w' := by
  go_enter Try.func71, Try.ntmps71
  go_wp2_with (go_at_call 87; refine (index_any A n c x zs B _ h hn).mono ?_; rintro e w' ⟨rfl, rfl⟩)
  all_goals
    go_ret
    exact ⟨ret_bool (by rw [← Bp.idx_has]), rfl⟩

set_option maxRecDepth 100000 in
set_option maxHeartbeats 400000 in
theorem isMany_any (n : Int) (w : World) : Calls Try.prog 64 #[.int .i64 n] w fun e w' => e = .returned (.bool (Bp.many n)) ∧ w = w' := by
  go_enter Try.func64, Try.ntmps64
  go_wp2
  all_goals
    go_ret
    exact ⟨ret_bool (by first | (simp [Bp.many]; done) | (simp [Bp.many]; omega)), rfl⟩

set_option maxRecDepth 100000 in
set_option maxHeartbeats 400000 in
theorem iBallotValid_any (A : Option Addr) (n c : Nat) (m : Int) (b : List Int) (B : Nat) (w : World) (h : Ints w B A n b) (hn : n ≤ 4611686018427387904) (hnc : n ≤ c) :
    Calls Try.prog 49 #[.slice A n c, .int .i64 m] w fun e w' => e = .returned (.bool (Bp.bval b m)) ∧ w = w' := by
  have hl := Lib.hid h.1
  cases hm : Bp.many m
  · have H := Lib.hid (Bp.bval_many b m hm)
    go_enter Try.func49, Try.ntmps49
    go_wp2_with (go_at_call 64; refine (isMany_any _ _).mono ?_; rintro e w' ⟨rfl, rfl⟩)
    go_ret
    exact ⟨ret_bool H.out.symm, rfl⟩
  · go_enter Try.func49, Try.ntmps49
    go_wp2_with (go_at_call 64; refine (isMany_any _ _).mono ?_; rintro e w' ⟨rfl, rfl⟩)
    go_loop [12] (fun i => ∃ k : Nat, k ≤ n ∧ i = .int .i64 k ∧ Hid (∀ j, j < k → Bp.Fit b m j)) (fun i => n - (intOf i).toNat)
    case atStart => exact ⟨0, Nat.zero_le _, rfl, fun j hj => absurd hj (by omega)⟩
    case round =>
      obtain ⟨k, hk, rfl, hq⟩ := hrel
      by_cases hlt : k < n
      · obtain ⟨g, o, z, rfl, _, hc, hz⟩ := h.at hlt
        have ht := h.take hk
        have hbad : ∀ hf : ¬ Bp.Fit b m k, Bp.bval b m = false := fun hf => Bp.bval_false b m k (by rw [hl.out]; exact hlt) hf
        have Hbad := Lib.hid hbad
        clear hbad
        by_cases hx : z < 0
        · go_wp2_with fail
          go_ret
          exact ⟨ret_bool (Hbad.out (by rintro ⟨h1, _⟩; rw [hz.out] at h1; omega)).symm, rfl⟩
        by_cases hy : m ≤ z
        · go_wp2_with fail
          go_ret
          exact ⟨ret_bool (Hbad.out (by rintro ⟨_, h1, _⟩; rw [hz.out] at h1; omega)).symm, rfl⟩
        cases hh : Bp.has (b.take k) z
        · have Hh := Lib.hid hh
          go_wp2_with (go_at_call 71; refine (contains_any _ _ _ _ _ _ _ ht (by omega)).mono ?_; rintro e w' ⟨rfl, rfl⟩)
          go_round
          case rel => exact ⟨k + 1, by omega, by go_num, fun j hj => by
            by_cases hj' : j = k
            · subst hj'
              refine ⟨by rw [hz.out]; omega, by rw [hz.out]; omega, ?_⟩
              rw [hz.out]
              simpa [Bp.has] using Hh.out
            · exact hq.out j (by omega)⟩
          case measure => simp [intOf]; omega
        · have Hh := Lib.hid hh
          go_wp2_with (go_at_call 71; refine (contains_any _ _ _ _ _ _ _ ht (by omega)).mono ?_; rintro e w' ⟨rfl, rfl⟩)
          go_ret
          exact ⟨ret_bool (Hbad.out (by rintro ⟨_, _, h1⟩; rw [hz.out] at h1; exact h1 (by simpa [Bp.has] using Hh.out))).symm, rfl⟩
      · go_wp2_with fail
        go_ret
        exact ⟨ret_bool (Bp.bval_true b m hm (fun i hi => hq.out i (by rw [hl.out] at hi; omega))).symm, rfl⟩
end Go.Proofs.Ytiglkajafdecgaa
