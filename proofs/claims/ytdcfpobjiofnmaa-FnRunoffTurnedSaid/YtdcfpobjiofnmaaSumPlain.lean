/-
  Plain laws of first preferences as sums over all ballots. No program in sight.
-/
import Derived.Test.YtdcfpobjiofnmaaTallyPlain
import Derived.Test.YtdcfpobjiofnmaaFirstPlain
namespace Go.Proofs.Ytdcfpobjiofnmaa.Bp
set_option linter.unusedVariables false
open Go

/-- the first preferences of a candidate are a sum over all ballots -/
theorem first_wsum (ps : List Pile) (left : List Bool) (c : Nat) (hc : c < left.length) : (firsts ps left).getD c 0 = wsum (fun t => if bfirst (bal t) left = (c : Int) then 1 else 0) ps := by
  have := wsum_of (F := fun k => (firstTo ps left k).getD c 0) (fun t => if bfirst (bal t) left = (c : Int) then 1 else 0) ps ?_ ?_
  · exact this
  · show (firstTo ps left 0).getD c 0 = 0
    simp [firstTo, List.getD, hc]
  · intro k hk
    show (firstTo ps left (k + 1)).getD c 0 = _
    rw [firstTo]
    obtain ⟨b, hb⟩ : ∃ b, bfirst (bal (ps.getD k default).1) left = b := ⟨_, rfl⟩
    rw [hb]
    by_cases h0 : 0 ≤ b
    · rw [if_pos h0, bump_at _ _ _ _ (by rw [firstTo_len]; exact hc)]
      by_cases h1 : c = b.toNat
      · rw [if_pos h1, if_pos (by omega), Int.mul_one]
      · rw [if_neg h1, if_neg (by omega), Int.mul_zero, Int.add_zero]
    · rw [if_neg h0, if_neg (by omega), Int.mul_zero, Int.add_zero]
theorem ext_getD {a b : List Int} (hl : a.length = b.length) (h : ∀ c, c < a.length → a.getD c 0 = b.getD c 0) : a = b := by
  apply List.ext_getElem hl
  intro i h1 h2
  have := h i h1
  rwa [getD_get _ _ h1, getD_get _ _ h2] at this
theorem firsts_ext {ps qs : List Pile} {left : List Bool} (h : ∀ c, c < left.length → wsum (fun t => if bfirst (bal t) left = (c : Int) then 1 else 0) qs = wsum (fun t => if bfirst (bal t) left = (c : Int) then 1 else 0) ps) : firsts qs left = firsts ps left :=
  ext_getD (by rw [firsts_len, firsts_len]) fun c hc => by
    rw [firsts_len] at hc
    rw [first_wsum qs left c hc, first_wsum ps left c hc, h c hc]
/-- piles put together fit, where each part fits -/
theorem merged_fits {ps qs : List Pile} {n : Int} (h : Merged ps qs) (hv : psval qs = true) (hm : many n = true) (hb : ∀ p ∈ ps, bval (bal p.1) n = true) : fits qs n = true :=
  fits_true qs n hm hv fun k hk => by
    have e : qs.getD k default = qs[k] := by simp [List.getD, hk]
    rw [e]
    obtain ⟨p, hp, e2⟩ := List.mem_map.1 ((h.names qs[k].1).1 (List.mem_map.2 ⟨qs[k], List.getElem_mem hk, rfl⟩))
    rw [← e2]
    exact hb p hp
theorem fits_mem {ps : List Pile} {n : Int} (h : fits ps n = true) : ∀ p ∈ ps, bval (bal p.1) n = true := fun p hp => by
  obtain ⟨k, hk, rfl⟩ := List.getElem_of_mem hp
  have := fits_at h k hk
  rwa [show ps.getD k default = ps[k] by simp [List.getD, hk]] at this
theorem bval_nil {n : Int} (h : 1 ≤ n ∧ n ≤ 5) : bval [] n = true := (bval_iff _ _).2 ⟨h, (fun c hc => by cases hc), List.nodup_nil⟩
end Go.Proofs.Ytdcfpobjiofnmaa.Bp
