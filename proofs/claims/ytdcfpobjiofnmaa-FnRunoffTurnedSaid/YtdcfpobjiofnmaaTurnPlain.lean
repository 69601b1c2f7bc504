/-
  Plain laws of two candidates exchanged: first preferences and winners are exchanged with them. No program in sight.
-/
import Derived.Test.YtdcfpobjiofnmaaTurnSum
import Derived.Test.YtdcfpobjiofnmaaPlural
namespace Go.Proofs.Ytdcfpobjiofnmaa.Bp
set_option linter.unusedVariables false
open Go

/-- two lists of numbers (truths), the second one with two places exchanged -/
def Tn {α : Type} (x y : Int) (n : Nat) (d : α) (l l' : List α) : Prop := l.length = n ∧ l'.length = n ∧ ∀ c : Nat, c < n → l'.getD (sw x y c).toNat d = l.getD c d
theorem sw_neg {x y : Int} (hx : 0 ≤ x) (hy : 0 ≤ y) : sw x y (-1) = -1 := by
  unfold sw
  rw [if_neg (by omega), if_neg (by omega)]
section
variable {x y : Int} {n : Nat}
theorem Tn.at {α : Type} {d : α} {l l' : List α} (h : Tn x y n d l l') {c : Int} (h0 : 0 ≤ c) (h1 : c < n) : l'.getD (sw x y c).toNat d = l.getD c.toNat d := by
  have := h.2.2 c.toNat (by omega)
  rwa [Int.toNat_of_nonneg h0] at this
theorem bfirst_turn (hx : 0 ≤ x) (hy : 0 ≤ y) {left left' : List Bool} (hl : Tn x y n false left left') : ∀ b : List Int, (∀ c ∈ b, 0 ≤ c ∧ c < n) → bfirst (b.map (sw x y)) left' = sw x y (bfirst b left)
  | [], _ => (sw_neg hx hy).symm
  | c :: r, h => by
    have ih := bfirst_turn hx hy hl r (fun d hd => h d (List.mem_cons_of_mem _ hd))
    have hc := h c (List.mem_cons_self ..)
    have e := hl.at hc.1 hc.2
    unfold bfirst at ih ⊢
    rw [List.map_cons, firstOf, firstOf, e]
    split
    · rfl
    · exact ih
theorem firsts_turn {ps qs : List Pile} (hf : fits ps n = true) (hx : 0 ≤ x ∧ x < n) (hy : 0 ≤ y ∧ y < n) (h : Merged (ps.map (tp x y)) qs) {left left' : List Bool} (hl : Tn x y n false left left') :
    Tn x y n 0 (firsts ps left) (firsts qs left') := by
  have hn := fits_n hf
  refine ⟨by rw [firsts_len, hl.1], by rw [firsts_len, hl.2.1], fun c hc => ?_⟩
  have hr := sw_range hx hy (show 0 ≤ (c : Int) ∧ (c : Int) < n by omega)
  rw [first_wsum qs left' _ (by rw [hl.2.1]; omega), first_wsum ps left c (by rw [hl.1]; exact hc)]
  rw [turn_wsum (fits_val hf) (by omega) (by omega) h (fun b => if bfirst b left' = ((sw x y c).toNat : Int) then 1 else 0)]
  refine wsum_congr ps fun p hp => ?_
  rw [bfirst_turn hx.1 hy.1 hl _ (((bval_iff _ _).1 (fits_mem hf p hp)).2.1), Int.toNat_of_nonneg hr.1]
  by_cases e : bfirst (bal p.1) left = c
  · rw [if_pos e, if_pos (by rw [e])]
  · rw [if_neg e, if_neg (fun e2 => e (sw_inj e2))]
theorem bestTo_turn {counts counts' lots : List Int} (hx : 0 ≤ x ∧ x < n) (hy : 0 ≤ y ∧ y < n) (hc : Tn x y n 0 counts counts') (hl : ∀ c ∈ lots, 0 ≤ c ∧ c < n) (h0 : 0 < lots.length) : ∀ k, k ≤ lots.length → bestTo counts' (lots.map (sw x y)) k = sw x y (bestTo counts lots k)
  | 0, _ => by
    rw [bestTo, bestTo, getD_get _ _ (by rw [List.length_map]; exact h0), getD_get _ _ h0, List.getElem_map]
  | k + 1, hk => by
    have ih := bestTo_turn hx hy hc hl h0 k (by omega)
    have hb := hl _ (bestTo_mem counts lots h0 k (by omega))
    have hk' := hl _ (getD_mem lots k (by omega))
    have e : (lots.map (sw x y)).getD k 0 = sw x y (lots.getD k 0) := by
      rw [getD_get _ _ (by rw [List.length_map]; omega), getD_get _ _ (show k < lots.length by omega), List.getElem_map]
    rw [bestTo, bestTo, ih, e, hc.at hb.1 hb.2, hc.at hk'.1 hk'.2]
    split <;> rfl
theorem best_turn {counts counts' lots : List Int} (hx : 0 ≤ x ∧ x < n) (hy : 0 ≤ y ∧ y < n) (hc : Tn x y n 0 counts counts') (hl : ∀ c ∈ lots, 0 ≤ c ∧ c < n) (h0 : 0 < lots.length) : best counts' (lots.map (sw x y)) = sw x y (best counts lots) := by
  unfold best
  rw [List.length_map]
  exact bestTo_turn hx hy hc hl h0 _ (Nat.le_refl _)
theorem fresh_turn (hx : 0 ≤ x ∧ x < n) (hy : 0 ≤ y ∧ y < n) : Tn x y n false (fresh n) (fresh n) := ⟨fresh_len n, fresh_len n, fun c hc => by
  have hr := sw_range hx hy (show 0 ≤ (c : Int) ∧ (c : Int) < n by omega)
  have h1 : (sw x y c).toNat < n := by omega
  simp [fresh, List.getD, hc, h1]⟩
end
theorem turn_ok {ps qs : List Pile} {lots : List Int} {x y : Int} (hok : ok ps lots = true) (hx : 0 ≤ x ∧ x < lots.length) (hy : 0 ≤ y ∧ y < lots.length) (h : Merged (ps.map (tp x y)) qs) (hq : psval qs = true) : ok qs (lots.map (sw x y)) = true := by
  unfold ok
  have hl : lval (lots.map (sw x y)) = true := by
    unfold lval
    rw [List.length_map]
    exact sw_bval hx hy (ok_lval hok)
  rw [hl, Bool.true_and, List.length_map]
  exact turn_fits (ok_fits hok) hx hy h hq
theorem turn_pwin {ps qs : List Pile} {lots : List Int} {x y : Int} (hok : ok ps lots = true) (hx : 0 ≤ x ∧ x < lots.length) (hy : 0 ≤ y ∧ y < lots.length) (h : Merged (ps.map (tp x y)) qs) (hq : psval qs = true) :
    pwin qs (lots.map (sw x y)) = sw x y (pwin ps lots) := by
  have hl := ok_lval hok
  have hn := lval_n hl
  rw [pwin_yes (turn_ok hok hx hy h hq), pwin_yes hok, List.length_map]
  exact best_turn hx hy (firsts_turn (ok_fits hok) hx hy h (fresh_turn hx hy)) (lval_range hl) (by omega)
end Go.Proofs.Ytdcfpobjiofnmaa.Bp
