/-
  Plain law of one more ballot for the winner of a plurality. No program in sight.
-/
import Derived.Test.YtdcfpobjiofnmaaAlonePlain
import Derived.Test.YtdcfpobjiofnmaaBallotText
namespace Go.Proofs.Ytdcfpobjiofnmaa.Bp
set_option linter.unusedVariables false
open Go

theorem bval_one {n : Int} (h : 1 ≤ n ∧ n ≤ 5) {b : Int} (h0 : 0 ≤ b) (h1 : b < n) : bval [b] n = true := (bval_iff _ _).2 ⟨h, (fun c hc => by rw [List.mem_singleton.1 hc]; exact ⟨h0, h1⟩), by simp⟩
theorem more_firsts {ps qs : List Pile} {b n : Nat} (h : Merged (ps ++ [(btext [(b : Int)], 1)]) qs) (hn : n ≤ 5) (hb : b < n) : firsts qs (fresh n) = bump (firsts ps (fresh n)) b 1 := by
  have hl : (fresh n).length = n := by simp [fresh]
  refine ext_getD (by rw [firsts_len, bump_len, firsts_len]) fun c hc => ?_
  rw [firsts_len, hl] at hc
  rw [bump_at _ _ _ _ (by rw [firsts_len, hl]; exact hc), first_wsum qs _ c (by rw [hl]; exact hc), first_wsum ps _ c (by rw [hl]; exact hc), h.sum, wsum_append]
  have e1 : bfirst (bal (btext [(b : Int)])) (fresh n) = b := by
    rw [bal_btext (bval_one (by omega) (by omega) (by omega))]
    have := bfirst_found [(b : Int)] (fresh n) 0 (by simp) (by show (fresh n).getD b false = false; simp [fresh, List.getD, hb]) (fun j hj => absurd hj (by omega))
    exact this
  have e2 : wsum (fun t => if bfirst (bal t) (fresh n) = (c : Int) then 1 else 0) [(btext [(b : Int)], 1)] = if c = b then 1 else 0 := by
    show 1 * (if bfirst (bal (btext [(b : Int)])) (fresh n) = (c : Int) then 1 else 0) + 0 = _
    rw [e1]
    by_cases hcb : c = b
    · rw [if_pos hcb, if_pos (by omega)]; rfl
    · rw [if_neg hcb, if_neg (by omega)]; rfl
  rw [e2]
  split <;> omega
theorem more_ok {ps qs : List Pile} {lots : List Int} {b : Nat} (h : Merged (ps ++ [(btext [(b : Int)], 1)]) qs) (hb : b < lots.length) (hv : psval qs = true) (hok : ok ps lots = true) : ok qs lots = true := by
  have hf := ok_fits hok
  have hn := fits_n hf
  unfold ok
  rw [ok_lval hok, Bool.true_and]
  refine merged_fits h hv (((fits_iff _ _).1 hf).1) fun p hp => ?_
  rcases List.mem_append.1 hp with h1 | h1
  · exact fits_mem hf p h1
  · rw [List.mem_singleton.1 h1]
    show bval (bal (btext [(b : Int)])) _ = true
    rw [bal_btext (bval_one (by omega) (by omega) (by omega))]
    exact bval_one hn (by omega) (by omega)
theorem pval_one {b : Nat} (hb : b < 5) : pval (btext [(b : Int)], 1) = true := (pval_iff _).2 ⟨pok_btext (bval_one (by omega) (by omega) (by omega)), by omega, by omega⟩
theorem more_best {counts lots : List Int} {b : Nat} (hl : lval lots = true) (hc : counts.length = lots.length) (hb : best counts lots = b) : best (bump counts b 1) lots = b := by
  have hn := lval_n hl
  obtain ⟨p, hp, he, h1, h2⟩ := best_spec counts lots (by omega)
  obtain ⟨q, hq, he', g1, g2⟩ := best_spec (bump counts b 1) lots (by omega)
  have hpr := lval_at hl p hp
  have hqr := lval_at hl q hq
  have hpb : lots.getD p 0 = b := by rw [← he, hb]
  rw [he']
  by_cases hqb : lots.getD q 0 = b
  · exact hqb
  · exfalso
    have a := g1 p hp
    rw [bump_at _ _ _ _ (by omega), bump_at _ _ _ _ (by omega), if_pos (by omega), if_neg (by omega)] at a
    have c := h1 q hq
    omega
theorem nextTo_bump (counts : List Int) (b : Nat) : ∀ k, k ≤ counts.length → nextTo (bump counts b 1) b k = nextTo counts b k
  | 0, _ => rfl
  | k + 1, hk => by
    rw [nextTo, nextTo, nextTo_bump counts b k (by omega)]
    by_cases e : (k : Int) = b
    · rw [if_pos e, if_pos e]
    · rw [if_neg e, if_neg e, bump_at _ _ _ _ (by omega), if_neg (by omega)]
theorem more_margin {counts lots : List Int} {b : Nat} (hl : lval lots = true) (hc : counts.length = lots.length) (hb : best counts lots = b) (hbl : b < lots.length) : margin (bump counts b 1) lots = margin counts lots + 1 := by
  unfold margin
  rw [more_best hl hc hb, hb, bump_len, nextTo_bump _ _ _ (Nat.le_refl _), Int.toNat_natCast, bump_at _ _ _ _ (by omega), if_pos rfl]
  omega
theorem more_win {ps qs : List Pile} {lots : List Int} {b : Nat} (h : Merged (ps ++ [(btext [(b : Int)], 1)]) qs) (hb : b < lots.length) (hv : psval qs = true) (hok : ok ps lots = true) (hw : pwin ps lots = b) :
    pwin qs lots = b ∧ pmar qs lots = pmar ps lots + 1 := by
  have hl := ok_lval hok
  have hn := lval_n hl
  have hok2 := more_ok h hb hv hok
  rw [pwin_yes hok] at hw
  rw [pwin_yes hok2, pmar_yes hok2, pmar_yes hok, more_firsts h hn.2 hb]
  have hc : (firsts ps (fresh lots.length)).length = lots.length := by rw [firsts_len]; simp [fresh]
  exact ⟨more_best hl hc hw, more_margin hl hc hw hb⟩
end Go.Proofs.Ytdcfpobjiofnmaa.Bp
