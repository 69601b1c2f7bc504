/-
  The walks of lots: LotsValid in the program and in the reference, who comes first, who has most.
-/
import Derived.Test.YtiglkajafdecgaaBallotSpec
import Derived.Test.YtiglkajafdecgaaBools
import Derived.Test.YtiglkajafdecgaaFirstPlain
namespace Go.Proofs.Ytiglkajafdecgaa
set_option linter.unusedVariables false
open Go.RowKit

set_option maxRecDepth 100000 in
set_option maxHeartbeats 400000 in
theorem iLotsValid_any (A : Option Addr) (n c : Nat) (b : List Int) (B : Nat) (w : World) (h : Ints w B A n b) (hn : n ≤ 4611686018427387904) (hnc : n ≤ c) :
    Calls Try.prog 41 #[.slice A n c] w fun e w' => e = .returned (.bool (Bp.lval b)) ∧ w = w' := by
  have hl := h.1
  have HL := Lib.hid (show Bp.lval b = Bp.bval b n by unfold Bp.lval; rw [hl])
  clear hl
  rcases Nat.eq_zero_or_pos n with h0 | h0
  · subst h0
    have H := Lib.hid (HL.out.trans (Bp.bval_many b _ (by rfl)))
    go_enter Try.func41, Try.ntmps41
    go_wp2
    go_ret
    exact ⟨ret_bool H.out.symm, rfl⟩
  · cases hv : Bp.bval b n
    all_goals
      have Hv := Lib.hid hv
      go_enter Try.func41, Try.ntmps41
      go_wp2_with (go_at_call 49; refine (iBallotValid_any A n c n b B _ h hn hnc).mono ?_; rintro e w' ⟨rfl, rfl⟩)
      go_ret
      exact ⟨ret_bool (by rw [HL.out, Hv.out]), rfl⟩

set_option maxRecDepth 100000 in
set_option maxHeartbeats 400000 in
theorem sLotsValid_any (A : Option Addr) (n c : Nat) (b : List Int) (B : Nat) (w : World) (h : Ints w B A n b) (hn : n ≤ 4611686018427387904) (hnc : n ≤ c) :
    Calls Try.prog 50 #[.slice A n c] w fun e w' => e = .returned (.bool (Bp.lval b)) ∧ Drawn w w' := by
  have hl := Lib.hid h.1
  have HL := Lib.hid (show Bp.lval b = Bp.bval b n by unfold Bp.lval; rw [hl.out])
  go_enter Try.func50, Try.ntmps50
  go_wp2
  go_loopw [3] (fun i wr => ∃ k : Nat, k ≤ n ∧ i = .int .i64 k ∧ Hid (∀ j, j < k → Bp.Fit b n j) ∧ Drawn w wr) (fun i _ => n - (intOf i).toNat)
  case atStart => exact ⟨0, Nat.zero_le _, rfl, fun j hj => absurd hj (by omega), Drawn.refl w⟩
  case round =>
    obtain ⟨k, hk, rfl, hq, hd⟩ := hrel
    by_cases hlt : k < n
    · have hr := h.below (hd.below B)
      obtain ⟨g, o, z, rfl, _, hc, hz⟩ := hr.at hlt
      have ht := hr.take hk
      have Hbad : Hid (¬ Bp.Fit b n k → Bp.bval b n = false) := fun hf => Bp.bval_false b n k (by rw [hl.out]; exact hlt) hf
      have hw1 : IntKind.i64.wrap ((n : Int) - 1) = (n : Int) - 1 := IntWalk.i64_in _ (by omega)
      cases hx : Fp.inr z 0 ((n : Int) - 1)
      · have Hx := Lib.hid hx
        go_wp2_with fail
        go_quiet ((first | (go_at_call 52; exact quiet_left (l6In_any _ _ _ _)) | (go_at_call 72; exact quiet_left (l1Has_any _ _ _ _ _ _ _ (ht.drewN _) (by omega)))))
        go_wp2_with fail
        go_ret
        exact ⟨ret_bool (by
          rw [HL.out]
          exact (Hbad.out (by
            rintro ⟨h1, h2, _⟩
            rw [hz.out] at h1 h2
            have := (Fp.inr_iff z 0 ((n : Int) - 1)).2 (by omega)
            rw [Hx.out] at this
            cases this)).symm), hd.drewN _⟩
      · cases hh : Bp.has (b.take k) z
        · have Hh := Lib.hid hh
          have Hx := Lib.hid hx
          go_wp2_with fail
          go_quiet ((first | (go_at_call 52; exact quiet_left (l6In_any _ _ _ _)) | (go_at_call 72; exact quiet_left (l1Has_any _ _ _ _ _ _ _ (ht.drewN _) (by omega)))))
          go_wp2_with fail
          go_roundw
          case rel => exact ⟨k + 1, by omega, by go_num, fun j hj => by
            by_cases hj' : j = k
            · subst hj'
              have := (Fp.inr_iff _ _ _).1 Hx.out
              refine ⟨by rw [hz.out]; omega, by rw [hz.out]; omega, ?_⟩
              rw [hz.out]
              simpa [Bp.has] using Hh.out
            · exact hq.out j (by omega), hd.drewN _⟩
          case measure => simp [intOf]; omega
        · have Hh := Lib.hid hh
          go_wp2_with fail
          go_quiet ((first | (go_at_call 52; exact quiet_left (l6In_any _ _ _ _)) | (go_at_call 72; exact quiet_left (l1Has_any _ _ _ _ _ _ _ (ht.drewN _) (by omega)))))
          go_wp2_with fail
          go_ret
          exact ⟨ret_bool (by
            rw [HL.out]
            exact (Hbad.out (by rintro ⟨_, _, h1⟩; rw [hz.out] at h1; exact h1 (by simpa [Bp.has] using Hh.out))).symm), hd.drewN _⟩
    · go_wp2_with (go_at_call 52; refine (l6In_any _ _ _ _).mono ?_; rintro e w' ⟨rfl, rfl⟩)
      go_ret
      refine ⟨ret_bool ?_, hd⟩
      rw [HL.out]
      cases hm : Bp.many n
      · rw [Bp.bval_many b n hm]; exact hm
      · rw [Bp.bval_true b n hm (fun i hi => hq.out i (by rw [hl.out] at hi; omega))]; exact hm


end Go.Proofs.Ytiglkajafdecgaa
