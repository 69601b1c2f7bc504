/-
  Plain laws of two candidates exchanged: the rounds of a runoff and its winner are exchanged with them. No program in sight.
-/
import Derived.Test.YtdcfpobjiofnmaaTurnPlain
import Derived.Test.YtdcfpobjiofnmaaRoundsPlain
namespace Go.Proofs.Ytdcfpobjiofnmaa.Bp
set_option linter.unusedVariables false
open Go

theorem addUp_congr {l l' : List Int} : ∀ k, (∀ j, j < k → l'.getD j 0 = l.getD j 0) → addUp l' k = addUp l k
  | 0, _ => rfl
  | k + 1, h => by rw [addUp, addUp, addUp_congr k (fun j hj => h j (by omega)), h k (by omega)]
theorem addUp_set (l : List Int) (i : Nat) (v : Int) (hi : i < l.length) : ∀ k, addUp (l.set i v) k = if i < k then addUp l k - l.getD i 0 + v else addUp l k
  | 0 => by rw [if_neg (by omega)]; rfl
  | k + 1 => by
    have ih := addUp_set l i v hi k
    rw [addUp, addUp, ih]
    by_cases h : i = k
    · subst h
      rw [if_neg (by omega), if_pos (by omega)]
      have e : (l.set i v).getD i 0 = v := by simp [List.getD, hi]
      rw [e]; omega
    · have e : (l.set i v).getD k 0 = l.getD k 0 := by simp [List.getD, h]
      rw [e]
      by_cases h2 : i < k
      · rw [if_pos h2, if_pos (by omega)]; omega
      · rw [if_neg h2, if_neg (by omega)]
section
variable {x y : Int} {n : Nat}
theorem Tn.back {α : Type} {d : α} {l l' : List α} (h : Tn x y n d l l') (hx : 0 ≤ x ∧ x < n) (hy : 0 ≤ y ∧ y < n) {c : Nat} (hc : c < n) : l'.getD c d = l.getD (sw x y c).toNat d := by
  have hr := sw_range hx hy (show 0 ≤ (c : Int) ∧ (c : Int) < n by omega)
  have := h.at hr.1 hr.2
  rw [sw_sw] at this
  simpa using this
theorem Tn.set {α : Type} {d : α} {l l' : List α} (h : Tn x y n d l l') (hx : 0 ≤ x ∧ x < n) (hy : 0 ≤ y ∧ y < n) {c : Int} (hc : 0 ≤ c ∧ c < n) (v : α) : Tn x y n d (l.set c.toNat v) (l'.set (sw x y c).toNat v) := by
  refine ⟨by rw [List.length_set]; exact h.1, by rw [List.length_set]; exact h.2.1, fun k hk => ?_⟩
  have hr := sw_range hx hy hc
  have hrk := sw_range hx hy (show 0 ≤ (k : Int) ∧ (k : Int) < n by omega)
  by_cases e : c = (k : Int)
  · subst e
    have h1 : (sw x y k).toNat < l'.length := by rw [h.2.1]; omega
    have h2 : k < l.length := by rw [h.1]; exact hk
    simp [List.getD, h1, h2]
  · have e1 : ¬ c.toNat = k := by omega
    have e2 : ¬ (sw x y c).toNat = (sw x y k).toNat := fun e3 => e (sw_inj (show sw x y c = sw x y k by omega))
    have h1 := h.2.2 k hk
    simp only [List.getD, List.getElem?_set_ne e1, List.getElem?_set_ne e2] at h1 ⊢
    exact h1
theorem addUp_turn {l l' : List Int} (hx : 0 ≤ x ∧ x < n) (hy : 0 ≤ y ∧ y < n) (h : Tn x y n 0 l l') : addUp l' n = addUp l n := by
  by_cases e : x = y
  · refine addUp_congr n fun j hj => ?_
    rw [h.back hx hy hj]
    congr 1
    unfold sw
    split
    · omega
    · split <;> omega
  · have h1 : addUp ((l.set x.toNat (l.getD y.toNat 0)).set y.toNat (l.getD x.toNat 0)) n = addUp l n := by
      have hyl : y.toNat < l.length := by rw [h.1]; omega
      have hxl : x.toNat < l.length := by rw [h.1]; omega
      have e2 : (l.set x.toNat (l.getD y.toNat 0)).getD y.toNat 0 = l.getD y.toNat 0 := by
        simp [List.getD, List.getElem?_set_ne (show ¬ x.toNat = y.toNat by omega)]
      rw [addUp_set _ _ _ (by rw [List.length_set]; exact hyl), if_pos (by omega), addUp_set _ _ _ hxl, if_pos (by omega), e2]
      omega
    rw [← h1]
    refine addUp_congr n fun j hj => ?_
    rw [h.back hx hy hj]
    have hxl : x.toNat < l.length := by rw [h.1]; omega
    have hyl : y.toNat < l.length := by rw [h.1]; omega
    unfold sw
    by_cases c1 : (j : Int) = x
    · have c1' : x.toNat = j := by omega
      have c2' : ¬ y.toNat = j := by omega
      rw [if_pos c1]
      simp only [List.getD, List.getElem?_set_ne c2']
      rw [c1', List.getElem?_set_self (by rw [← c1']; exact hxl)]
      rfl
    · rw [if_neg c1]
      by_cases c2 : (j : Int) = y
      · have c2' : y.toNat = j := by omega
        rw [if_pos c2]
        simp only [List.getD]
        rw [c2', List.getElem?_set_self (by rw [List.length_set, ← c2']; exact hyl)]
        rfl
      · rw [if_neg c2]
        have c1' : ¬ x.toNat = j := by omega
        have c2' : ¬ y.toNat = j := by omega
        simp only [List.getD, List.getElem?_set_ne c2', List.getElem?_set_ne c1', Int.toNat_natCast]
theorem maxTo_le {l l' : List Int} (hx : 0 ≤ x ∧ x < n) (hy : 0 ≤ y ∧ y < n) (h : Tn x y n 0 l l') (h0 : 0 ≤ maxTo l n) : maxTo l' n ≤ maxTo l n := by
  rcases maxTo_is l' n with e | ⟨j, hj, e⟩
  · omega
  · have hr := sw_range hx hy (show 0 ≤ (j : Int) ∧ (j : Int) < n by omega)
    rw [e, h.back hx hy hj]
    exact maxTo_ge l n _ (by omega)
theorem maxTo_nn (l : List Int) : ∀ k, 0 ≤ maxTo l k
  | 0 => Int.le_refl _
  | k + 1 => by
    have := maxTo_nn l k
    rw [maxTo]; omega
theorem Tn.symm {α : Type} {d : α} {l l' : List α} (h : Tn x y n d l l') (hx : 0 ≤ x ∧ x < n) (hy : 0 ≤ y ∧ y < n) : Tn x y n d l' l :=
  ⟨h.2.1, h.1, fun _ hc => (h.back hx hy hc).symm⟩
theorem maxTo_turn {l l' : List Int} (hx : 0 ≤ x ∧ x < n) (hy : 0 ≤ y ∧ y < n) (h : Tn x y n 0 l l') : maxTo l' n = maxTo l n :=
  Int.le_antisymm (maxTo_le hx hy h (maxTo_nn _ _)) (maxTo_le hx hy (h.symm hx hy) (maxTo_nn _ _))
theorem thereTo_add (left : List Bool) : ∀ k, k ≤ left.length → thereTo left k = addUp (left.map fun b => if b then 0 else 1) k
  | 0, _ => rfl
  | k + 1, hk => by
    have hk' : k < left.length := hk
    rw [thereTo, addUp, thereTo_add left k (by omega)]
    have e1 : left.getD k false = left[k] := by simp [List.getD, hk']
    have e2 : (left.map fun b => if b then (0 : Int) else 1).getD k 0 = if left[k] then 0 else 1 := by simp [List.getD, hk']
    rw [e1, e2]
    cases left[k]
    · rw [if_neg (by simp), if_neg (by simp)]
    · rw [if_pos rfl, if_pos rfl]; omega
theorem Tn.map {α β : Type} {d : α} {d' : β} {l l' : List α} (f : α → β) (h : Tn x y n d l l') (hx : 0 ≤ x ∧ x < n) (hy : 0 ≤ y ∧ y < n) : Tn x y n d' (l.map f) (l'.map f) := by
  refine ⟨by rw [List.length_map]; exact h.1, by rw [List.length_map]; exact h.2.1, fun c hc => ?_⟩
  have hr := sw_range hx hy (show 0 ≤ (c : Int) ∧ (c : Int) < n by omega)
  have h1 : (sw x y c).toNat < l'.length := by rw [h.2.1]; omega
  have h2 : c < l.length := by rw [h.1]; exact hc
  have h3 := h.2.2 c hc
  simp only [List.getD, List.getElem?_map, List.getElem?_eq_getElem h1, List.getElem?_eq_getElem h2, Option.map_some, Option.getD_some] at h3 ⊢
  rw [h3]
theorem there_turn {lf lf' : List Bool} (hx : 0 ≤ x ∧ x < n) (hy : 0 ≤ y ∧ y < n) (h : Tn x y n false lf lf') : Bp.there lf' = Bp.there lf := by
  unfold Bp.there
  rw [thereTo_add _ _ (Nat.le_refl _), thereTo_add _ _ (Nat.le_refl _), h.1, h.2.1]
  exact addUp_turn hx hy (h.map _ hx hy)
theorem rdone_turn {counts counts' : List Int} {lf lf' : List Bool} (hx : 0 ≤ x ∧ x < n) (hy : 0 ≤ y ∧ y < n) (hc : Tn x y n 0 counts counts') (h : Tn x y n false lf lf') : rdone counts' lf' = rdone counts lf := by
  unfold rdone
  rw [there_turn hx hy h, hc.1, hc.2.1, addUp_turn hx hy hc, maxTo_turn hx hy hc]
theorem leastTo_turn {counts counts' lots : List Int} {lf lf' : List Bool} (hx : 0 ≤ x ∧ x < n) (hy : 0 ≤ y ∧ y < n) (hc : Tn x y n 0 counts counts') (h : Tn x y n false lf lf') (hl : ∀ c ∈ lots, 0 ≤ c ∧ c < n) : ∀ k, k ≤ lots.length →
    leastTo counts' lf' (lots.map (sw x y)) k = sw x y (leastTo counts lf lots k) ∧ (leastTo counts lf lots k = -1 ∨ (0 ≤ leastTo counts lf lots k ∧ leastTo counts lf lots k < n))
  | 0, _ => ⟨(sw_neg hx.1 hy.1).symm, .inl rfl⟩
  | k + 1, hk => by
    obtain ⟨ih, ir⟩ := leastTo_turn hx hy hc h hl k (by omega)
    have hk' := hl _ (getD_mem lots k (by omega))
    have e : (lots.map (sw x y)).getD k 0 = sw x y (lots.getD k 0) := by
      rw [getD_get _ _ (by rw [List.length_map]; omega), getD_get _ _ (show k < lots.length by omega), List.getElem_map]
    rw [leastTo, leastTo, e, ih, h.at hk'.1 hk'.2, hc.at hk'.1 hk'.2]
    obtain ⟨L, hL⟩ : ∃ L, leastTo counts lf lots k = L := ⟨_, rfl⟩
    rw [hL] at ir ⊢
    split
    · exact ⟨rfl, ir⟩
    · rcases ir with rfl | ⟨i0, i1⟩
      · rw [sw_neg hx.1 hy.1, if_pos (.inl (by decide)), if_pos (.inl (by decide))]
        exact ⟨rfl, .inr hk'⟩
      · have hs := sw_range hx hy ⟨i0, i1⟩
        rw [hc.at i0 i1]
        by_cases hle : counts.getD (lots.getD k 0).toNat 0 ≤ counts.getD L.toNat 0
        · rw [if_pos (.inr hle), if_pos (.inr hle)]
          exact ⟨rfl, .inr hk'⟩
        · rw [if_neg (by omega), if_neg (by omega)]
          exact ⟨rfl, .inr ⟨i0, i1⟩⟩
theorem least_turn {counts counts' lots : List Int} {lf lf' : List Bool} (hx : 0 ≤ x ∧ x < n) (hy : 0 ≤ y ∧ y < n) (hc : Tn x y n 0 counts counts') (h : Tn x y n false lf lf') (hl : ∀ c ∈ lots, 0 ≤ c ∧ c < n) : least counts' lf' (lots.map (sw x y)) = sw x y (least counts lf lots) := by
  unfold least
  rw [List.length_map]
  exact (leastTo_turn hx hy hc h hl _ (Nat.le_refl _)).1
end
/-- rounds after two candidates were exchanged -/
def RT (x y : Int) (n : Nat) (rs rs' : List Rnd) : Prop := rs'.length = rs.length ∧ ∀ k, k < rs.length → Tn x y n 0 (rs.getD k default).1 (rs'.getD k default).1 ∧ (rs'.getD k default).2 = sw x y (rs.getD k default).2
theorem RT.cons {x y : Int} {n : Nat} {rs rs' : List Rnd} {r r' : Rnd} (h1 : Tn x y n 0 r.1 r'.1) (h2 : r'.2 = sw x y r.2) (h : RT x y n rs rs') : RT x y n (r :: rs) (r' :: rs') := by
  refine ⟨by rw [List.length_cons, List.length_cons, h.1], fun k hk => ?_⟩
  cases k with
  | zero => exact ⟨h1, h2⟩
  | succ k => exact h.2 k (by simpa using hk)
theorem rnds_turn {ps qs : List Pile} {lots : List Int} {x y : Int} (hl : lval lots = true) (hf : fits ps lots.length = true) (hx : 0 ≤ x ∧ x < lots.length) (hy : 0 ≤ y ∧ y < lots.length) (h : Merged (ps.map (tp x y)) qs) : ∀ (f : Nat) (lf lf' : List Bool), Bp.there lf = f → Tn x y lots.length false lf lf' →
    RT x y lots.length (rnds ps lots f lf) (rnds qs (lots.map (sw x y)) f lf')
  | 0, _, _, _, _ => ⟨rfl, fun k hk => absurd hk (by simp [rnds])⟩
  | f + 1, lf, lf', ht, hlf => by
    have hc := firsts_turn hf hx hy h hlf
    rw [rnds, rnds, rdone_turn hx hy hc hlf, least_turn hx hy hc hlf (lval_range hl)]
    split
    · exact RT.cons hc (sw_neg hx.1 hy.1).symm ⟨rfl, fun k hk => absurd hk (by simp)⟩
    · have hr := least_range (counts := firsts ps lf) hl hlf.1 (by omega)
      refine RT.cons hc rfl (rnds_turn hl hf hx hy h f _ _ ?_ (hlf.set hx hy ⟨hr.1, hr.2.1⟩ true))
      rw [there_set lf _ hr.2.2 (by rw [hlf.1]; omega), ht]
      omega
theorem cutTo_turn {x y : Int} {n : Nat} {rs rs' : List Rnd} (hx : 0 ≤ x ∧ x < n) (hy : 0 ≤ y ∧ y < n) (h : RT x y n rs rs') {counts counts' : List Int} (hc : Tn x y n 0 counts counts') : ∀ k, k ≤ rs.length → (∀ j, j < k → 0 ≤ (rs.getD j default).2 ∧ (rs.getD j default).2 < n) → Tn x y n 0 (cutTo counts rs k) (cutTo counts' rs' k)
  | 0, _, _ => hc
  | k + 1, hk, hr => by
    have ih := cutTo_turn hx hy h hc k (by omega) (fun j hj => hr j (by omega))
    rw [cutTo, cutTo, (h.2 k (by omega)).2]
    exact ih.set hx hy (hr k (by omega)) (-1)
theorem turn_rwin {ps qs : List Pile} {lots : List Int} {x y : Int} (hl : lval lots = true) (hf : fits ps lots.length = true) (hx : 0 ≤ x ∧ x < lots.length) (hy : 0 ≤ y ∧ y < lots.length) (h : Merged (ps.map (tp x y)) qs) : rwin qs (lots.map (sw x y)) = sw x y (rwin ps lots) := by
  have hn := lval_n hl
  have hRT : RT x y lots.length (rounds ps lots) (rounds qs (lots.map (sw x y))) := by
    unfold rounds
    rw [List.length_map]
    exact rnds_turn hl hf hx hy h _ _ _ (there_fresh _) (fresh_turn hx hy)
  obtain ⟨h1, h2, h3⟩ := rounds_ok ps lots hl
  unfold rwin
  rw [hRT.1]
  refine best_turn hx hy (cutTo_turn hx hy hRT (hRT.2 _ (by omega)).1 _ (by omega) (fun j hj => ?_)) (lval_range hl) (by omega)
  have h4 := h3 j (by omega)
  have ht := h4.there
  have hr := least_range (counts := firsts ps (leftAfter (List.replicate lots.length false) (rounds ps lots) j)) hl (by rw [leftAfter_len]; simp) (left := leftAfter (List.replicate lots.length false) (rounds ps lots) j) (by rw [ht]; omega)
  rw [(h4.goes (by omega)).2]
  exact ⟨hr.1, hr.2.1⟩
end Go.Proofs.Ytdcfpobjiofnmaa.Bp
