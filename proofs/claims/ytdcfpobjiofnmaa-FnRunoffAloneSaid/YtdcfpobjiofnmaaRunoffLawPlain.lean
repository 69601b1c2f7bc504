/-
  Plain facts behind the laws of runoffs. No program in sight.
-/
import Derived.Test.YtdcfpobjiofnmaaRoundsPlain
import Derived.Test.YtdcfpobjiofnmaaPlurPlain
namespace Go.Proofs.Ytdcfpobjiofnmaa.Bp
set_option linter.unusedVariables false
open Go

theorem getD_set_ne {α : Type} (l : List α) (i j : Nat) (v d : α) (h : ¬ i = j) : (l.set i v).getD j d = l.getD j d := by
  simp [List.getD, List.getElem?_set_ne h]
theorem getD_set_eq {α : Type} (l : List α) (i : Nat) (v d : α) (h : i < l.length) : (l.set i v).getD i d = v := by
  simp [List.getD, h]
theorem bfirst_stays (b : List Int) (left : List Bool) (h : 0 ≤ bfirst b left) : left.getD (bfirst b left).toNat false = false := by
  rcases firstOf_cases (fun c => !left.getD c.toNat false) b with ⟨h1, _⟩ | ⟨_, h2⟩
  · unfold bfirst at h
    rw [h1] at h
    exact absurd h (by decide)
  · unfold bfirst
    simpa using h2
theorem firstTo_left (ps : List Pile) (left : List Bool) (j : Nat) (hj : left.getD j false = true) : ∀ k, (firstTo ps left k).getD j 0 = 0
  | 0 => by
    rw [firstTo]
    by_cases h : j < left.length
    · simp [List.getD, h]
    · simp [List.getD, h]
  | k + 1 => by
    rw [firstTo]
    split
    · next h =>
      have hs := bfirst_stays _ _ h
      unfold bump
      have hne : ¬ (bfirst (bal (ps.getD k default).1) left).toNat = j := fun e => by
        rw [e, hj] at hs; cases hs
      rw [getD_set_ne _ _ _ _ _ hne]
      exact firstTo_left ps left j hj k
    · exact firstTo_left ps left j hj k
theorem firsts_left (ps : List Pile) (left : List Bool) (j : Nat) (hj : left.getD j false = true) : (firsts ps left).getD j 0 = 0 := firstTo_left ps left j hj _
theorem leftAfter_more (lf : List Bool) (rs : List Rnd) (j : Nat) : ∀ k d, (leftAfter lf rs k).getD j false = true → (leftAfter lf rs (k + d)).getD j false = true
  | k, 0, h => h
  | k, d + 1, h => by
    have ih := leftAfter_more lf rs j k d h
    rw [show k + (d + 1) = (k + d) + 1 by omega, leftAfter]
    by_cases e : (rs.getD (k + d) default).2.toNat = j
    · have hj : j < (leftAfter lf rs (k + d)).length := by
        rcases Nat.lt_or_ge j (leftAfter lf rs (k + d)).length with h1 | h1
        · exact h1
        · simp [List.getD, h1] at ih
      rw [e]
      exact getD_set_eq _ _ _ _ hj
    · rw [getD_set_ne _ _ _ _ _ e]
      exact ih
theorem rounds_out {ps : List Pile} {lots : List Int} (hl : lval lots = true) {k : Nat} (hk : k + 1 < (rounds ps lots).length) :
    0 ≤ ((rounds ps lots).getD k default).2 ∧ ((rounds ps lots).getD k default).2 < lots.length ∧ (leftAfter (List.replicate lots.length false) (rounds ps lots) k).getD ((rounds ps lots).getD k default).2.toNat false = false := by
  obtain ⟨_, h2, h3⟩ := rounds_ok ps lots hl
  have h4 := h3 k (by omega)
  obtain ⟨_, h6⟩ := h4.goes hk
  have ht := h4.there
  have hr := least_range (counts := firsts ps (leftAfter (List.replicate lots.length false) (rounds ps lots) k)) hl (by rw [leftAfter_len]; simp) (left := leftAfter (List.replicate lots.length false) (rounds ps lots) k) (by rw [ht]; omega)
  rw [h6]
  exact hr
theorem rwin_facts (ps : List Pile) (lots : List Int) (hl : lval lots = true) (hf : fits ps lots.length = true) :
    ∃ b : Nat, rwin ps lots = b ∧ b < lots.length ∧ ((rounds ps lots).getD ((rounds ps lots).length - 1) default).1.getD b 0 = topN ((rounds ps lots).getD ((rounds ps lots).length - 1) default).1 lots.length ∧
      ∀ i, i < (rounds ps lots).length → ((rounds ps lots).getD i default).2 ≠ b := by
  obtain ⟨h1, h2, h3⟩ := rounds_ok ps lots hl
  have hok := h3 ((rounds ps lots).length - 1) (by omega)
  obtain ⟨N, hN⟩ : ∃ N, (rounds ps lots).length - 1 = N := ⟨_, rfl⟩
  have hlenN : (rounds ps lots).length = N + 1 := by omega
  have hlast := hok.last (by omega)
  rw [hN] at hok hlast
  have hzl : ((rounds ps lots).getD N default).1.length = lots.length := by rw [hok.counts, firsts_len, leftAfter_len]; simp
  have hrep : ∀ j, (List.replicate lots.length false).getD j false = false := fun j => by
    by_cases h : j < lots.length
    · simp [List.getD, h]
    · simp [List.getD, h]
  have hcut := cutTo_at ((rounds ps lots).getD N default).1 (rounds ps lots) (List.replicate lots.length false) (by rw [hzl]; simp) hrep N
  have hbd : Bd ((rounds ps lots).getD N default).1 1188 := by rw [hok.counts]; exact firsts_bd (fits_val hf)
  have hzero : ∀ j, (leftAfter (List.replicate lots.length false) (rounds ps lots) N).getD j false = true → ((rounds ps lots).getD N default).1.getD j 0 = 0 := fun j hj => by rw [hok.counts]; exact firsts_left _ _ _ hj
  have ht := hok.there
  obtain ⟨s, hs, hls⟩ := there_some _ _ (show thereTo (leftAfter (List.replicate lots.length false) (rounds ps lots) N) (leftAfter (List.replicate lots.length false) (rounds ps lots) N).length ≠ 0 by
    have : Bp.there (leftAfter (List.replicate lots.length false) (rounds ps lots) N) ≠ 0 := by rw [ht]; omega
    exact this)
  rw [leftAfter_len, List.length_replicate] at hs
  have hlt := lval_n hl
  obtain ⟨q, hq, he, hmax, _⟩ := best_spec (cutTo ((rounds ps lots).getD N default).1 (rounds ps lots) N) lots (by omega)
  have hbr := lval_at hl q hq
  obtain ⟨b, hb⟩ := Int.eq_ofNat_of_zero_le hbr.1
  have hbl : b < lots.length := by omega
  have hwin : rwin ps lots = b := by unfold rwin; rw [hN, he, hb]
  rw [hb, Int.toNat_natCast] at hmax
  have hall : ∀ j, j < lots.length → (cutTo ((rounds ps lots).getD N default).1 (rounds ps lots) N).getD j 0 ≤ (cutTo ((rounds ps lots).getD N default).1 (rounds ps lots) N).getD b 0 := fun j hj => by
    obtain ⟨i, hi, e⟩ := List.getElem_of_mem (lval_all hl j hj)
    have := hmax i hi
    rw [getD_get _ _ hi, e, Int.toNat_natCast] at this
    exact this
  have hbs : (leftAfter (List.replicate lots.length false) (rounds ps lots) N).getD b false = false := by
    cases hx : (leftAfter (List.replicate lots.length false) (rounds ps lots) N).getD b false
    · rfl
    · have h5 := hall s hs
      rw [hcut s (by rw [hzl]; exact hs), hcut b (by rw [hzl]; exact hbl), hx, hls] at h5
      rw [if_neg (by simp), if_pos rfl] at h5
      have := (hbd s).1
      omega
  have hge : ∀ j, j < lots.length → ((rounds ps lots).getD N default).1.getD j 0 ≤ ((rounds ps lots).getD N default).1.getD b 0 := fun j hj => by
    have h5 := hall j hj
    rw [hcut j (by rw [hzl]; exact hj), hcut b (by rw [hzl]; exact hbl), hbs] at h5
    cases hx : (leftAfter (List.replicate lots.length false) (rounds ps lots) N).getD j false
    · rw [hx] at h5; simpa using h5
    · rw [hzero j hx]; exact (hbd b).1
  refine ⟨b, hwin, hbl, ?_, fun i hi e => ?_⟩
  · rw [hN]
    have h6 := topN_ge ((rounds ps lots).getD N default).1 lots.length b hbl
    rcases topN_is ((rounds ps lots).getD N default).1 lots.length with h7 | ⟨j, hj, h7⟩
    · have := (hbd b).1; omega
    · have := hge j hj; omega
  · by_cases hiN : i = N
    · rw [hiN] at e
      have e2 := hlast.2.symm.trans e
      have e3 := Int.natCast_nonneg b
      rw [← e2] at e3
      exact absurd e3 (by decide)
    · obtain ⟨o1, o2, o3⟩ := rounds_out (ps := ps) hl (k := i) (by omega)
      rw [e, Int.toNat_natCast] at o3
      have h8 : (leftAfter (List.replicate lots.length false) (rounds ps lots) (i + 1)).getD b false = true := by
        rw [leftAfter, e, Int.toNat_natCast]
        have : b < (leftAfter (List.replicate lots.length false) (rounds ps lots) i).length := by rw [leftAfter_len]; simpa using hbl
        exact getD_set_eq _ _ _ _ this
      have h9 := leftAfter_more _ (rounds ps lots) b (i + 1) (N - (i + 1)) h8
      rw [show i + 1 + (N - (i + 1)) = N by omega, hbs] at h9
      cases h9
/-- who leaves has least, and the latest lot of those -/
theorem rounds_least {ps : List Pile} {lots : List Int} (hl : lval lots = true) {k : Nat} (hk : k + 1 < (rounds ps lots).length) (x : Nat) (hx : x < lots.length) (hlx : (leftAfter (List.replicate lots.length false) (rounds ps lots) k).getD x false = false) :
    ((rounds ps lots).getD k default).1.getD ((rounds ps lots).getD k default).2.toNat 0 ≤ ((rounds ps lots).getD k default).1.getD x 0 ∧
    (((rounds ps lots).getD k default).1.getD x 0 = ((rounds ps lots).getD k default).1.getD ((rounds ps lots).getD k default).2.toNat 0 → bef lots ((rounds ps lots).getD k default).2 x = false) := by
  obtain ⟨_, h2, h3⟩ := rounds_ok ps lots hl
  have h4 := h3 k (by omega)
  obtain ⟨_, h6⟩ := h4.goes hk
  have ht := h4.there
  obtain ⟨p, hp, e, hlp, h7, h8⟩ := least_is (firsts ps (leftAfter (List.replicate lots.length false) (rounds ps lots) k)) (leftAfter (List.replicate lots.length false) (rounds ps lots) k) lots hl (by rw [leftAfter_len]; simp) (by rw [ht]; omega)
  rw [h6, h4.counts, e]
  obtain ⟨i, hi, ei⟩ := List.getElem_of_mem (lval_all hl x hx)
  have ei' : lots.getD i 0 = (x : Int) := by rw [getD_get _ _ hi, ei]
  have h9 := h7 i hi (by rw [ei', Int.toNat_natCast]; exact hlx)
  rw [ei', Int.toNat_natCast] at h9
  refine ⟨h9, fun heq => ?_⟩
  rw [← ei', bef_at hl hp hi, decide_eq_false_iff_not]
  intro hpi
  have h10 := h8 i hpi hi (by rw [ei', Int.toNat_natCast]; exact hlx)
  rw [ei', Int.toNat_natCast] at h10
  omega
end Go.Proofs.Ytdcfpobjiofnmaa.Bp
