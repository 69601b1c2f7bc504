/-
  The walks of lots: LotsValid in the program and in the reference, who comes first, who has most.
-/
import Derived.Test.YtdcfpobjiofnmaaBallotSpec
import Derived.Test.YtdcfpobjiofnmaaBools
import Derived.Test.YtdcfpobjiofnmaaFirstPlain
namespace Go.Proofs.Ytdcfpobjiofnmaa
set_option linter.unusedVariables false
open Go.RowKit

set_option maxRecDepth 100000 in
set_option maxHeartbeats 400000 in
theorem iLotsValid_any (A : Option Addr) (n c : Nat) (b : List Int) (B : Nat) (w : World) (h : Ints w B A n b) (hn : n ≤ 4611686018427387904) (hnc : n ≤ c) :
    Calls Try.prog 47 #[.slice A n c] w fun e w' => e = .returned (.bool (Bp.lval b)) ∧ w = w' := by
  have hl := h.1
  have HL := Lib.hid (show Bp.lval b = Bp.bval b n by unfold Bp.lval; rw [hl])
  clear hl
  rcases Nat.eq_zero_or_pos n with h0 | h0
  · subst h0
    have H := Lib.hid (HL.out.trans (Bp.bval_many b _ (by rfl)))
    go_enter Try.func47, Try.ntmps47
    go_wp2
    go_ret
    exact ⟨ret_bool H.out.symm, rfl⟩
  · cases hv : Bp.bval b n
    all_goals
      have Hv := Lib.hid hv
      go_enter Try.func47, Try.ntmps47
      go_wp2_with (go_at_call 54; refine (iBallotValid_any A n c n b B _ h hn hnc).mono ?_; rintro e w' ⟨rfl, rfl⟩)
      go_ret
      exact ⟨ret_bool (by rw [HL.out, Hv.out]), rfl⟩

set_option maxRecDepth 100000 in
set_option maxHeartbeats 400000 in
theorem sLotsValid_any (A : Option Addr) (n c : Nat) (b : List Int) (B : Nat) (w : World) (h : Ints w B A n b) (hn : n ≤ 4611686018427387904) (hnc : n ≤ c) :
    Calls Try.prog 48 #[.slice A n c] w fun e w' => e = .returned (.bool (Bp.lval b)) ∧ Drawn w w' := by
  have hl := Lib.hid h.1
  have HL := Lib.hid (show Bp.lval b = Bp.bval b n by unfold Bp.lval; rw [hl.out])
  go_enter Try.func48, Try.ntmps48
  go_wp2
  go_loopw [3] (fun i wr => ∃ k : Nat, k ≤ n ∧ i = .int .i64 k ∧ Hid (∀ j, j < k → Bp.Fit b n j) ∧ Drawn w wr) (fun i _ => n - (intOf i).toNat)
  case atStart => exact ⟨0, Nat.zero_le _, rfl, fun j hj => absurd hj (by omega), Drawn.refl w⟩
  case round =>
    obtain ⟨k, hk, rfl, hq, hd⟩ := hrel
    by_cases hlt : k < n
    · have hr := h.below (hd.below B)
      obtain ⟨g, o, z, rfl, _, hc, hz⟩ := hr.at hlt
      have ht := hr.take hk
      have Hbad : Hid (¬ Bp.Fit b n k → Bp.bval b n = false) := fun hf => Bp.bval_false b n k (by rw [hl.out]; exact hlt) hf
      have hw1 : IntKind.i64.wrap ((n : Int) - 1) = (n : Int) - 1 := IntWalk.i64_in _ (by omega)
      cases hx : Fp.inr z 0 ((n : Int) - 1)
      · have Hx := Lib.hid hx
        go_wp2_with fail
        go_quiet ((first | (go_at_call 63; exact quiet_left (l6In_any _ _ _ _)) | (go_at_call 73; exact quiet_left (l1Has_any _ _ _ _ _ _ _ (ht.drewN _) (by omega)))))
        go_wp2_with fail
        go_ret
        exact ⟨ret_bool (by
          rw [HL.out]
          exact (Hbad.out (by
            rintro ⟨h1, h2, _⟩
            rw [hz.out] at h1 h2
            have := (Fp.inr_iff z 0 ((n : Int) - 1)).2 (by omega)
            rw [Hx.out] at this
            cases this)).symm), hd.drewN _⟩
      · cases hh : Bp.has (b.take k) z
        · have Hh := Lib.hid hh
          have Hx := Lib.hid hx
          go_wp2_with fail
          go_quiet ((first | (go_at_call 63; exact quiet_left (l6In_any _ _ _ _)) | (go_at_call 73; exact quiet_left (l1Has_any _ _ _ _ _ _ _ (ht.drewN _) (by omega)))))
          go_wp2_with fail
          go_roundw
          case rel => exact ⟨k + 1, by omega, by go_num, fun j hj => by
            by_cases hj' : j = k
            · subst hj'
              have := (Fp.inr_iff _ _ _).1 Hx.out
              refine ⟨by rw [hz.out]; omega, by rw [hz.out]; omega, ?_⟩
              rw [hz.out]
              simpa [Bp.has] using Hh.out
            · exact hq.out j (by omega), hd.drewN _⟩
          case measure => simp [intOf]; omega
        · have Hh := Lib.hid hh
          go_wp2_with fail
          go_quiet ((first | (go_at_call 63; exact quiet_left (l6In_any _ _ _ _)) | (go_at_call 73; exact quiet_left (l1Has_any _ _ _ _ _ _ _ (ht.drewN _) (by omega)))))
          go_wp2_with fail
          go_ret
          exact ⟨ret_bool (by
            rw [HL.out]
            exact (Hbad.out (by rintro ⟨_, _, h1⟩; rw [hz.out] at h1; exact h1 (by simpa [Bp.has] using Hh.out))).symm), hd.drewN _⟩
    · go_wp2_with (go_at_call 63; refine (l6In_any _ _ _ _).mono ?_; rintro e w' ⟨rfl, rfl⟩)
      go_ret
      refine ⟨ret_bool ?_, hd⟩
      rw [HL.out]
      cases hm : Bp.many n
      · rw [Bp.bval_many b n hm]; exact hm
      · rw [Bp.bval_true b n hm (fun i hi => hq.out i (by rw [hl.out] at hi; omega))]; exact hm

set_option maxRecDepth 100000 in
set_option maxHeartbeats 400000 in
theorem greatest_any (A A' : Option Addr) (n c n' c' : Nat) (counts lots : List Int) (B B' : Nat) (w : World) (h : Ints w B A n counts) (h' : Ints w B' A' n' lots) (hlv : Bp.lval lots = true) (hnn : n = n') :
    Calls Try.prog 40 #[.slice A n c, .slice A' n' c'] w fun e w' => e = .returned (.int .i64 (Bp.best counts lots)) ∧ Drawn w w' := by
  have hl := Lib.hid h.1
  have hl' := Lib.hid h'.1
  have h5 := Bp.lval_n hlv
  rw [hl'.out] at h5
  have Hlv := Lib.hid hlv
  clear hlv
  have Hnn := Lib.hid hnn
  have hnn1 : n ≤ n' := by omega
  have hnn2 : n' ≤ n := by omega
  clear hnn
  obtain ⟨g0, o0, z0, rfl, _, hc0, hz0⟩ := h'.at (show 0 < n' by omega)
  have h50 : 0 < n' := by omega
  have hc00 : w.cell? ⟨g0, o0, none⟩ = some (.int .i64 z0) := hc0
  clear hc0
  go_enter Try.func40, Try.ntmps40
  go_wp2
  go_loopw [5, 13] (fun b i wr => ∃ k : Nat, k ≤ n' ∧ i = .int .i64 k ∧ b = .int .i64 (Bp.bestTo counts lots k) ∧ Drawn w wr) (fun _ i _ => n' - (intOf i).toNat)
  case atStart => exact ⟨0, Nat.zero_le _, rfl, by rw [Bp.bestTo, hz0.out], Drawn.refl w⟩
  case round =>
    obtain ⟨k, hk, rfl, rfl, hd⟩ := hrel
    clear hc00 hz0
    by_cases hlt : k < n'
    · obtain ⟨g', o', z', hA', _, hc', hz'⟩ := (h'.below (hd.below B')).at hlt
      injection hA' with hA'
      injection hA' with e1 e2
      subst e1; subst e2
      have hzr := Bp.lval_at Hlv.out k (by rw [hl'.out]; exact hlt)
      rw [hz'.out, hl'.out] at hzr
      obtain ⟨zn, rfl⟩ := Int.eq_ofNat_of_zero_le hzr.1
      have hbr := Bp.lval_range Hlv.out _ (Bp.bestTo_mem counts lots (by rw [hl'.out]; omega) k (by rw [hl'.out]; omega))
      rw [hl'.out] at hbr
      have Hs := Lib.hid (show Bp.bestTo counts lots (k + 1) = if counts.getD (Bp.bestTo counts lots k).toNat 0 < counts.getD (lots.getD k 0).toNat 0 then lots.getD k 0 else Bp.bestTo counts lots k from rfl)
      obtain ⟨q, hq⟩ : ∃ q, Bp.bestTo counts lots k = q := ⟨_, rfl⟩
      rw [hq] at hbr
      obtain ⟨qn, rfl⟩ := Int.eq_ofNat_of_zero_le hbr.1
      have Hq := Lib.hid hq
      rw [hq]
      clear hq
      obtain ⟨g, o, x, rfl, _, hcx, hx⟩ := (h.below (hd.below B)).at (show zn < n by omega)
      obtain ⟨g2, o2, y, hA2, _, hcy, hy⟩ := (h.below (hd.below B)).at (show qn < n by omega)
      injection hA2 with hA2
      injection hA2 with e1 e2
      subst e1; subst e2
      have i1 : (0 : Int) ≤ (zn : Int) := by omega
      have i2 : (zn : Int) < (n : Int) := by omega
      have i3 : (0 : Int) ≤ (qn : Int) := by omega
      have i4 : (qn : Int) < (n : Int) := by omega
      by_cases hyx : y < x
      · go_wp2_with fail
        go_quiet (fail)
        go_wp2_with fail
        go_roundw
        case rel => exact ⟨k + 1, by omega, by go_num, by rw [Hs.out, Hq.out, hz'.out, Int.toNat_natCast, Int.toNat_natCast, hx.out, hy.out, if_pos hyx], hd.drewN _⟩
        case measure => simp [intOf]; omega
      · go_wp2_with fail
        go_quiet (fail)
        go_wp2_with fail
        go_roundw
        case rel => exact ⟨k + 1, by omega, by go_num, by rw [Hs.out, Hq.out, hz'.out, Int.toNat_natCast, Int.toNat_natCast, hx.out, hy.out, if_neg (by omega)], hd.drewN _⟩
        case measure => simp [intOf]; omega
    · have hkn : k = n' := by omega
      have Hkn := Lib.hid hkn
      clear hkn
      go_wp2_with fail
      go_ret
      exact ⟨ret_int (by unfold Bp.best; rw [hl'.out, Hkn.out]), hd⟩

set_option maxRecDepth 100000 in
set_option maxHeartbeats 400000 in
theorem l4First_any (A A' : Option Addr) (n c n' c' : Nat) (lots : List Int) (some : List Bool) (B B' : Nat) (w : World) (h : Ints w B A n lots) (h' : Bools w B' A' n' some) (hn : n ≤ 1048576) (hr : ∀ j, j < n → 0 ≤ lots.getD j 0 ∧ lots.getD j 0 < n') :
    Calls Try.prog 42 #[.slice A n c, .slice A' n' c'] w fun e w' => e = .returned (.int .i64 (Bp.lfirst lots some)) ∧ w = w' := by
  have hl := Lib.hid h.1
  have Hr := Lib.hid hr
  clear hr
  go_enter Try.func42, Try.ntmps42
  go_wp2
  go_loop [5] (fun i => ∃ k : Nat, k ≤ n ∧ i = .int .i64 k ∧ Hid (∀ j, j < k → some.getD (lots.getD j 0).toNat false = false)) (fun i => n - (intOf i).toNat)
  case atStart => exact ⟨0, Nat.zero_le _, rfl, fun j hj => absurd hj (by omega)⟩
  case round =>
    obtain ⟨k, hk, rfl, hq⟩ := hrel
    by_cases hlt : k < n
    · obtain ⟨g, o, z, rfl, _, hc, hz⟩ := h.at hlt
      have hzr := Hr.out k hlt
      rw [hz.out] at hzr
      obtain ⟨zn, rfl⟩ := Int.eq_ofNat_of_zero_le hzr.1
      obtain ⟨g2, o2, y, rfl, _, hcy, hy⟩ := h'.at (show zn < n' by omega)
      cases y
      · go_wp2_with fail
        go_round
        case rel => exact ⟨k + 1, by omega, by go_num, fun j hj => by
          by_cases hj' : j = k
          · subst hj'; rw [hz.out, Int.toNat_natCast, hy.out]
          · exact hq.out j (by omega)⟩
        case measure => simp [intOf]; omega
      · go_wp2_with fail
        go_ret
        exact ⟨ret_int (by
          rw [Bp.lfirst_found lots some k (by rw [hl.out]; exact hlt) (by rw [hz.out, Int.toNat_natCast, hy.out]) hq.out, hz.out]), rfl⟩
    · go_wp2_with fail
      go_ret
      exact ⟨ret_int (by
        rw [Bp.lfirst_none lots some (fun j hj => hq.out j (by rw [hl.out] at hj; omega))]), rfl⟩
end Go.Proofs.Ytdcfpobjiofnmaa
