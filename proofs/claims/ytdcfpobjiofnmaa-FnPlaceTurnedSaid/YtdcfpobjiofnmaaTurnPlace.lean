/-
  Plain laws of two candidates exchanged: counts by places and their winner are exchanged with them. No program in sight.
-/
import Derived.Test.YtdcfpobjiofnmaaTurnPlain
import Derived.Test.YtdcfpobjiofnmaaPlaceWin
namespace Go.Proofs.Ytdcfpobjiofnmaa.Bp
set_option linter.unusedVariables false
open Go

/-- the points of one candidate on the first j places of a ballot -/
def ppts (pts : Nat → Nat → Int) (b : List Int) (c : Int) : Nat → Int
  | 0 => 0
  | j + 1 => ppts pts b c j + if b.getD j 0 = c then pts j b.length else 0
theorem addTo_ppts (pts : Nat → Nat → Int) (m : Int) (b acc : List Int) (c : Nat) (hc : c < acc.length) (hb : ∀ d ∈ b, 0 ≤ d) : ∀ j, j ≤ b.length → (addTo pts m b acc j).getD c 0 = acc.getD c 0 + m * ppts pts b c j
  | 0, _ => by rw [addTo, ppts, Int.mul_zero, Int.add_zero]
  | j + 1, hj => by
    have ih := addTo_ppts pts m b acc c hc hb j (by omega)
    have h0 := hb _ (getD_mem b j (by omega))
    rw [addTo, bump_at _ _ _ _ (by rw [addTo_len]; exact hc), ih, ppts, Int.mul_add]
    by_cases e : b.getD j 0 = (c : Int)
    · rw [if_pos e, if_pos (by omega)]; omega
    · rw [if_neg e, if_neg (by omega)]; omega
theorem counted_wsum (pts : Nat → Nat → Int) {ps : List Pile} {n : Nat} (hf : fits ps n = true) {c : Nat} (hc : c < n) : (counted pts ps n).getD c 0 = wsum (fun t => ppts pts (bal t) c (bal t).length) ps := by
  have := wsum_of (F := fun k => (countTo pts ps n k).getD c 0) (fun t => ppts pts (bal t) c (bal t).length) ps ?_ ?_
  · exact this
  · show (countTo pts ps n 0).getD c 0 = 0
    simp [countTo, List.getD, hc]
  · intro k hk
    show (countTo pts ps n (k + 1)).getD c 0 = _
    have hv := fits_at hf k hk
    rw [countTo, addTo_ppts pts _ _ _ c (by rw [countTo_len]; exact hc) (fun d hd => (((bval_iff _ _).1 hv).2.1 d hd).1) _ (Nat.le_refl _)]
theorem ppts_turn (pts : Nat → Nat → Int) (x y c : Int) (b : List Int) : ∀ j, j ≤ b.length → ppts pts (b.map (sw x y)) (sw x y c) j = ppts pts b c j
  | 0, _ => rfl
  | j + 1, hj => by
    have e : (b.map (sw x y)).getD j 0 = sw x y (b.getD j 0) := by
      rw [getD_get _ _ (by rw [List.length_map]; omega), getD_get _ _ (show j < b.length by omega), List.getElem_map]
    rw [ppts, ppts, ppts_turn pts x y c b j (by omega), e, List.length_map]
    by_cases h : b.getD j 0 = c
    · rw [if_pos h, if_pos (by rw [h])]
    · rw [if_neg h, if_neg (fun e2 => h (sw_inj e2))]
theorem counted_turn (pts : Nat → Nat → Int) {ps qs : List Pile} {x y : Int} {n : Nat} (hf : fits ps n = true) (hx : 0 ≤ x ∧ x < n) (hy : 0 ≤ y ∧ y < n) (h : Merged (ps.map (tp x y)) qs) (hq : psval qs = true) :
    Tn x y n 0 (counted pts ps n) (counted pts qs n) := by
  have hn := fits_n hf
  refine ⟨counted_len pts ps n, counted_len pts qs n, fun c hc => ?_⟩
  have hr := sw_range hx hy (show 0 ≤ (c : Int) ∧ (c : Int) < n by omega)
  rw [counted_wsum pts (turn_fits hf hx hy h hq) (c := (sw x y c).toNat) (by omega), counted_wsum pts hf hc]
  rw [turn_wsum (fits_val hf) (by omega) (by omega) h (fun b => ppts pts b ((sw x y c).toNat : Int) b.length)]
  refine wsum_congr ps fun p hp => ?_
  rw [Int.toNat_of_nonneg hr.1, List.length_map]
  exact ppts_turn pts x y c _ _ (Nat.le_refl _)
theorem turn_plwin {ps qs : List Pile} {lots : List Int} {x y : Int} (hok : ok ps lots = true) (hx : 0 ≤ x ∧ x < lots.length) (hy : 0 ≤ y ∧ y < lots.length) (h : Merged (ps.map (tp x y)) qs) (hq : psval qs = true) :
    plwin qs (lots.map (sw x y)) = sw x y (plwin ps lots) := by
  have hl := ok_lval hok
  have hn := lval_n hl
  rw [plwin_yes (turn_ok hok hx hy h hq), plwin_yes hok, List.length_map]
  exact best_turn hx hy (counted_turn _ (ok_fits hok) hx hy h hq) (lval_range hl) (by omega)
end Go.Proofs.Ytdcfpobjiofnmaa.Bp
