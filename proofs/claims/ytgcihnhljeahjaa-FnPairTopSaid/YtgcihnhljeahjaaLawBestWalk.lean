/-
  The walk of FnPairBestPaths.
-/
import Derived.Test.YtgcihnhljeahjaaLawTables
import Derived.Test.YtgcihnhljeahjaaBest
import Derived.Test.YtgcihnhljeahjaaSameInts
namespace Go.Proofs.Ytgcihnhljeahjaa
set_option linter.unusedVariables false
open Go.RowKit

theorem Bp.has_picks (p : Nat → Bool) (n x : Nat) (hx : x < n) : Bp.has (Bp.picks p n) (x : Int) = p x := by
  unfold Bp.has
  cases h : p x
  · rw [decide_eq_false_iff_not, Bp.picks_mem]
    rintro ⟨j, _, e, hp⟩
    have : x = j := by omega
    subst this
    rw [h] at hp; cases hp
  · rw [decide_eq_true_eq, Bp.picks_mem]
    exact ⟨x, hx, rfl, h⟩
set_option maxRecDepth 100000 in
set_option maxHeartbeats 400000 in
theorem hasInt_any (A : Option Addr) (n c : Nat) (x : Int) (zs : List Int) (B : Nat) (w : World) (h : Ints w B A n zs) (hn : n ≤ 1048576) :
    Calls Try.prog 24 #[.slice A n c, .int .i64 x] w fun e w' => e = .returned (.bool (Bp.has zs x)) ∧ w = w' := by
  have hl := Lib.hid h.1
  go_enter Try.func24, Try.ntmps24
  go_wp2
  go_loop [5] (fun i => ∃ k : Nat, k ≤ n ∧ i = .int .i64 k ∧ Hid (∀ j, j < k → zs.getD j 0 ≠ x)) (fun i => n - (intOf i).toNat)
  case atStart => exact ⟨0, Nat.zero_le _, rfl, fun j hj => absurd hj (by omega)⟩
  case round =>
    obtain ⟨k, hk, rfl, hq⟩ := hrel
    by_cases hlt : k < n
    · obtain ⟨g, o, z, rfl, _, hc, hz⟩ := h.at hlt
      have i1 : (0 : Int) ≤ (k : Int) := by omega
      have i2 : (k : Int) < (n : Int) := by omega
      by_cases hx : z = x
      · have hb : (z == x) = true := by simpa using hx
        have Hx := Lib.hid hx
        clear hx
        go_wp2
        go_ret
        exact ⟨ret_bool (Bp.has_true zs x k (by rw [hl.out]; exact hlt) (by rw [hz.out, Hx.out])).symm, rfl⟩
      · have hb : (z == x) = false := by simpa using hx
        have Hx := Lib.hid hx
        clear hx
        go_wp2
        go_round
        case rel => exact ⟨k + 1, by omega, by go_num, fun j hj => by
          by_cases hj' : j = k
          · subst hj'; rw [hz.out]; exact Hx.out
          · exact hq.out j (by omega)⟩
        case measure => simp [intOf]; omega
    · go_wp2
      go_ret
      exact ⟨ret_bool (Bp.has_false zs x (fun j hj => hq.out j (by rw [hl.out] at hj; omega))).symm, rfl⟩
theorem hasInt_val (A : Option Addr) (n c : Nat) (x : Int) (zs : List Int) (v : Bool) (hv : Bp.has zs x = v) (B : Nat) (w : World) (h : Ints w B A n zs) (hn : n ≤ 1048576) :
    Calls Try.prog 24 #[.slice A n c, .int .i64 x] w fun e w' => e = .returned (.bool v) ∧ w = w' := by
  subst hv; exact hasInt_any A n c x zs B w h hn
end Go.Proofs.Ytgcihnhljeahjaa
