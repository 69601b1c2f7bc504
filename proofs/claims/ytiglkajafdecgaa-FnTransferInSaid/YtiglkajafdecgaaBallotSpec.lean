/-
  The walks of the reference's l1Has and BallotValid.
-/
import Derived.Test.YtiglkajafdecgaaBallotWalks
import Derived.Test.YtiglkajafdecgaaSmall
namespace Go.Proofs.Ytiglkajafdecgaa
set_option linter.unusedVariables false
open Go.RowKit

set_option maxRecDepth 100000 in
set_option maxHeartbeats 400000 in
theorem l1Has_any (A : Option Addr) (n c : Nat) (x : Int) (zs : List Int) (B : Nat) (w : World) (h : Ints w B A n zs) (hn : n ≤ 4611686018427387904) :
    Calls Try.prog 72 #[.slice A n c, .int .i64 x] w fun e w' => e = .returned (.bool (Bp.has zs x)) ∧ w = w' := by
  have hl := Lib.hid h.1
  go_enter Try.func72, Try.ntmps72
  go_wp2
  go_loop [5] (fun i => ∃ k : Nat, k ≤ n ∧ i = .int .i64 k ∧ Hid (∀ j, j < k → zs.getD j 0 ≠ x)) (fun i => n - (intOf i).toNat)
  case atStart => exact ⟨0, Nat.zero_le _, rfl, fun j hj => absurd hj (by omega)⟩
  case round =>
    obtain ⟨k, hk, rfl, hq⟩ := hrel
    by_cases hlt : k < n
    · obtain ⟨g, o, z, rfl, _, hc, hz⟩ := h.at hlt
      by_cases hx : z = x
      · have hb : (z == x) = true := by simpa using hx
        have Hx := Lib.hid hx
        clear hx
        go_wp2
        go_ret
        exact ⟨ret_bool (Bp.has_true zs x k (by rw [hl.out]; exact hlt) (by rw [hz.out, Hx.out])).symm, rfl⟩
      · have hb : (z == x) = false := by simpa using hx
        have Hx := Lib.hid hx
        clear hx
        go_wp2
        go_round
        case rel => exact ⟨k + 1, by omega, by go_num, fun j hj => by
          by_cases hj' : j = k
          · subst hj'; rw [hz.out]; exact Hx.out
          · exact hq.out j (by omega)⟩
        case measure => simp [intOf]; omega
    · go_wp2
      go_ret
      exact ⟨ret_bool (Bp.has_false zs x (fun j hj => hq.out j (by rw [hl.out] at hj; omega))).symm, rfl⟩

set_option maxRecDepth 100000 in
set_option maxHeartbeats 400000 in
theorem sBallotValid_any (A : Option Addr) (n c : Nat) (m : Int) (b : List Int) (B : Nat) (w : World) (h : Ints w B A n b) (hn : n ≤ 4611686018427387904) (hnc : n ≤ c) :
    Calls Try.prog 74 #[.slice A n c, .int .i64 m] w fun e w' => e = .returned (.bool (Bp.bval b m)) ∧ Drawn w w' := by
  have hl := Lib.hid h.1
  obtain ⟨X, hX⟩ : ∃ X, IntKind.i64.wrap (m - 1) = X := ⟨_, rfl⟩
  have HX : Hid (Bp.many m = true → X = m - 1) := fun hm => by
    have := (Bp.many_iff m).1 hm
    rw [← hX]
    exact IntWalk.i64_in _ (by omega)
  go_enter Try.func74, Try.ntmps74
  go_wp2
  go_loopw [5] (fun i wr => ∃ k : Nat, k ≤ n ∧ i = .int .i64 k ∧ Hid (Bp.many m = true → ∀ j, j < k → Bp.Fit b m j) ∧ Drawn w wr) (fun i _ => n - (intOf i).toNat)
  case atStart => exact ⟨0, Nat.zero_le _, rfl, fun _ j hj => absurd hj (by omega), Drawn.refl w⟩
  case round =>
    obtain ⟨k, hk, rfl, hq, hd⟩ := hrel
    by_cases hlt : k < n
    · have hr := h.below (hd.below B)
      obtain ⟨g, o, z, rfl, _, hc, hz⟩ := hr.at hlt
      have ht := hr.take hk
      have Hbad : Hid (¬ (Bp.many m = true ∧ Bp.Fit b m k) → Bp.bval b m = false) := fun hf => by
        cases hm : Bp.many m
        · exact Bp.bval_many b m hm
        · exact Bp.bval_false b m k (by rw [hl.out]; exact hlt) (fun hf' => hf ⟨hm, hf'⟩)
      cases hx : Fp.inr z 0 X
      · have Hx := Lib.hid hx
        go_wp2_with fail
        go_quiet ((first | (go_at_call 52; exact quiet_left (l6In_any _ _ _ _)) | (go_at_call 72; exact quiet_left (l1Has_any _ _ _ _ _ _ _ (ht.drewN _) (by omega)))))
        go_wp2_with fail
        go_ret
        exact ⟨ret_bool (Hbad.out (by
          rintro ⟨hm, h1, h2, _⟩
          rw [hz.out] at h1 h2
          have := HX.out hm
          have := (Fp.inr_iff z 0 X).2 (by omega)
          rw [Hx.out] at this
          cases this)).symm, hd.drewN _⟩
      · cases hh : Bp.has (b.take k) z
        · have Hh := Lib.hid hh
          have Hx := Lib.hid hx
          go_wp2_with fail
          go_quiet ((first | (go_at_call 52; exact quiet_left (l6In_any _ _ _ _)) | (go_at_call 72; exact quiet_left (l1Has_any _ _ _ _ _ _ _ (ht.drewN _) (by omega)))))
          go_wp2_with fail
          go_roundw
          case rel => exact ⟨k + 1, by omega, by go_num, fun hm j hj => by
            by_cases hj' : j = k
            · subst hj'
              have := (Fp.inr_iff _ _ _).1 Hx.out
              have h3 := HX.out hm
              refine ⟨by rw [hz.out]; omega, by rw [hz.out]; omega, ?_⟩
              rw [hz.out]
              simpa [Bp.has] using Hh.out
            · exact hq.out hm j (by omega), hd.drewN _⟩
          case measure => simp [intOf]; omega
        · have Hh := Lib.hid hh
          go_wp2_with fail
          go_quiet ((first | (go_at_call 52; exact quiet_left (l6In_any _ _ _ _)) | (go_at_call 72; exact quiet_left (l1Has_any _ _ _ _ _ _ _ (ht.drewN _) (by omega)))))
          go_wp2_with fail
          go_ret
          exact ⟨ret_bool (Hbad.out (by rintro ⟨_, _, _, h1⟩; rw [hz.out] at h1; exact h1 (by simpa [Bp.has] using Hh.out))).symm, hd.drewN _⟩
    · go_wp2_with (go_at_call 52; refine (l6In_any _ _ _ _).mono ?_; rintro e w' ⟨rfl, rfl⟩)
      go_ret
      refine ⟨ret_bool ?_, hd⟩
      cases hm : Bp.many m
      · rw [Bp.bval_many b m hm]; exact hm
      · rw [Bp.bval_true b m hm (fun i hi => hq.out hm i (by rw [hl.out] at hi; omega))]; exact hm
end Go.Proofs.Ytiglkajafdecgaa
