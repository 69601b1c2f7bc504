/-
  Plain facts on the rounds of a runoff: who has left ahead of each round, how it ends. No program in sight.
-/
import Derived.Test.YtdcfpobjiofnmaaRunoffPlain
namespace Go.Proofs.Ytdcfpobjiofnmaa.Bp
set_option linter.unusedVariables false
open Go

abbrev Rnd := List Int × Int
/-- who has left behind the first k of some rounds -/
def leftAfter (lf : List Bool) (rs : List Rnd) : Nat → List Bool
  | 0 => lf
  | k + 1 => (leftAfter lf rs k).set (rs.getD k default).2.toNat true
theorem leftAfter_len (lf : List Bool) (rs : List Rnd) : ∀ k, (leftAfter lf rs k).length = lf.length
  | 0 => rfl
  | k + 1 => by rw [leftAfter, List.length_set, leftAfter_len lf rs k]
theorem leftAfter_cons (lf : List Bool) (r : Rnd) (rs : List Rnd) : ∀ k, leftAfter lf (r :: rs) (k + 1) = leftAfter (lf.set r.2.toNat true) rs k
  | 0 => rfl
  | k + 1 => by
    rw [leftAfter, leftAfter_cons lf r rs k]
    rfl
/-- what stands at place k of the rounds from lf on -/
structure RoundOk (ps : List Pile) (lots : List Int) (lf : List Bool) (rs : List Rnd) (f k : Nat) : Prop where
  counts : (rs.getD k default).1 = firsts ps (leftAfter lf rs k)
  there : there (leftAfter lf rs k) = (f : Int) - k
  goes : k + 1 < rs.length → rdone (firsts ps (leftAfter lf rs k)) (leftAfter lf rs k) = false ∧ (rs.getD k default).2 = least (firsts ps (leftAfter lf rs k)) (leftAfter lf rs k) lots
  last : k + 1 = rs.length → rdone (firsts ps (leftAfter lf rs k)) (leftAfter lf rs k) = true ∧ (rs.getD k default).2 = -1
theorem rdone_one (counts : List Int) (left : List Bool) (h : Bp.there left = 1) : rdone counts left = true := by
  unfold rdone
  rw [h]; simp
theorem least_range {counts : List Int} {left : List Bool} {lots : List Int} (hl : lval lots = true) (hn : left.length = lots.length) (ht : Bp.there left ≠ 0) :
    0 ≤ least counts left lots ∧ least counts left lots < lots.length ∧ left.getD (least counts left lots).toNat false = false := by
  obtain ⟨p, hp, e, hlp, _⟩ := least_is counts left lots hl hn ht
  rw [e]
  have := lval_at hl p hp
  exact ⟨this.1, this.2, hlp⟩
theorem rnds_ok (ps : List Pile) (lots : List Int) (hl : lval lots = true) : ∀ (f : Nat) (lf : List Bool), 1 ≤ f → lf.length = lots.length → Bp.there lf = f →
    1 ≤ (rnds ps lots f lf).length ∧ (rnds ps lots f lf).length ≤ f ∧ ∀ k, k < (rnds ps lots f lf).length → RoundOk ps lots lf (rnds ps lots f lf) f k
  | 0, _, h, _, _ => absurd h (by omega)
  | f + 1, lf, _, hn, ht => by
    rw [rnds]
    cases hd : rdone (firsts ps lf) lf
    · rw [if_neg (by simp)]
      have hf : 1 ≤ f := by
        rcases Nat.eq_zero_or_pos f with h0 | h0
        · subst h0
          rw [rdone_one _ _ ht] at hd; cases hd
        · exact h0
      have hr := least_range (counts := firsts ps lf) hl hn (by omega)
      have ht' : Bp.there (lf.set (least (firsts ps lf) lf lots).toNat true) = (f : Int) := by
        rw [there_set lf _ hr.2.2 (by omega), ht]
        omega
      obtain ⟨h1, h2, h3⟩ := rnds_ok ps lots hl f (lf.set (least (firsts ps lf) lf lots).toNat true) hf (by rw [List.length_set]; exact hn) ht'
      refine ⟨by simp, by simp; omega, fun k hk => ?_⟩
      cases k with
      | zero => exact ⟨rfl, by show Bp.there lf = _; rw [ht]; simp, fun _ => ⟨hd, rfl⟩, fun e => by rw [List.length_cons] at e; omega⟩
      | succ k =>
        have h4 := h3 k (by simpa using hk)
        refine ⟨?_, ?_, fun hk' => ?_, fun hk' => ?_⟩
        · rw [leftAfter_cons]; exact h4.counts
        · rw [leftAfter_cons, h4.there]; omega
        · rw [leftAfter_cons]; exact h4.goes (by simpa using hk')
        · rw [leftAfter_cons]; exact h4.last (by simpa using hk')
    · rw [if_pos rfl]
      refine ⟨by simp, by simp, fun k hk => ?_⟩
      have hk0 : k = 0 := by simpa using hk
      subst hk0
      exact ⟨rfl, by show Bp.there lf = _; rw [ht]; simp, fun e => by simp at e, fun _ => ⟨hd, rfl⟩⟩
def fresh' (n : Nat) : List Bool := List.replicate n false
theorem rounds_ok (ps : List Pile) (lots : List Int) (hl : lval lots = true) :
    1 ≤ (rounds ps lots).length ∧ (rounds ps lots).length ≤ lots.length ∧ ∀ k, k < (rounds ps lots).length → RoundOk ps lots (List.replicate lots.length false) (rounds ps lots) lots.length k := by
  have hn := lval_n hl
  exact rnds_ok ps lots hl lots.length _ hn.1 (by simp) (there_fresh _)
/-- the counts with -1 at whoever left in the first k rounds -/
def cutTo (counts : List Int) (rs : List Rnd) : Nat → List Int
  | 0 => counts
  | k + 1 => (cutTo counts rs k).set (rs.getD k default).2.toNat (-1)
theorem cutTo_len (counts : List Int) (rs : List Rnd) : ∀ k, (cutTo counts rs k).length = counts.length
  | 0 => rfl
  | k + 1 => by rw [cutTo, List.length_set, cutTo_len counts rs k]
theorem cutTo_at (counts : List Int) (rs : List Rnd) (lf : List Bool) (hlen : counts.length = lf.length) (hlf : ∀ j, lf.getD j false = false) : ∀ k j, j < counts.length → (cutTo counts rs k).getD j 0 = if (leftAfter lf rs k).getD j false then -1 else counts.getD j 0
  | 0, j, _ => by rw [cutTo, leftAfter, hlf j]; rfl
  | k + 1, j, hj => by
    have ih := cutTo_at counts rs lf hlen hlf k j hj
    rw [cutTo, leftAfter]
    obtain ⟨x, hx⟩ : ∃ x, (rs.getD k default).2.toNat = x := ⟨_, rfl⟩
    rw [hx]
    clear hx
    by_cases h : x = j
    · subst h
      have e1 : ((cutTo counts rs k).set x (-1)).getD x 0 = -1 := by simp [List.getD, cutTo_len, hj]
      have e2 : ((leftAfter lf rs k).set x true).getD x false = true := by simp [List.getD, leftAfter_len, ← hlen, hj]
      rw [e1, e2]; rfl
    · have e1 : ((cutTo counts rs k).set x (-1)).getD j 0 = (cutTo counts rs k).getD j 0 := by simp [List.getD, List.getElem?_set_ne h]
      have e2 : ((leftAfter lf rs k).set x true).getD j false = (leftAfter lf rs k).getD j false := by simp [List.getD, List.getElem?_set_ne h]
      rw [e1, e2, ih]
/-- who has not left -/
def stays (left : List Bool) : List Bool := left.map not
theorem stays_len (left : List Bool) : (stays left).length = left.length := by simp [stays]
theorem stays_at (left : List Bool) (j : Nat) (h : j < left.length) : (stays left).getD j false = !left.getD j false := by simp [stays, List.getD, h]
theorem there_some (left : List Bool) : ∀ k, thereTo left k ≠ 0 → ∃ j, j < k ∧ left.getD j false = false
  | 0, h => absurd rfl h
  | k + 1, h => by
    rw [thereTo] at h
    cases hk : left.getD k false
    · exact ⟨k, by omega, hk⟩
    · rw [hk, if_pos rfl] at h
      obtain ⟨j, hj, e⟩ := there_some left k h
      exact ⟨j, by omega, e⟩
/-- the winner of a runoff -/
def rwin (ps : List Pile) (lots : List Int) : Int := best (cutTo ((rounds ps lots).getD ((rounds ps lots).length - 1) default).1 (rounds ps lots) ((rounds ps lots).length - 1)) lots
theorem rwin_most (ps : List Pile) (lots : List Int) (hl : lval lots = true) (hf : fits ps lots.length = true) :
    lfirst lots (mostOf ((rounds ps lots).getD ((rounds ps lots).length - 1) default).1 (stays (leftAfter (List.replicate lots.length false) (rounds ps lots) ((rounds ps lots).length - 1))) ((rounds ps lots).getD ((rounds ps lots).length - 1) default).1.length) = rwin ps lots := by
  obtain ⟨h1, h2, h3⟩ := rounds_ok ps lots hl
  have h4 := h3 ((rounds ps lots).length - 1) (by omega)
  have hlen : ((rounds ps lots).getD ((rounds ps lots).length - 1) default).1.length = lots.length := by rw [h4.counts, firsts_len, leftAfter_len]; simp
  have ht := h4.there
  obtain ⟨j, hj, hlj⟩ := there_some _ _ (show thereTo (leftAfter (List.replicate lots.length false) (rounds ps lots) ((rounds ps lots).length - 1)) (leftAfter (List.replicate lots.length false) (rounds ps lots) ((rounds ps lots).length - 1)).length ≠ 0 by
    have : Bp.there (leftAfter (List.replicate lots.length false) (rounds ps lots) ((rounds ps lots).length - 1)) ≠ 0 := by rw [ht]; omega
    exact this)
  rw [leftAfter_len, List.length_replicate] at hj
  refine first_most _ _ lots _ 1188 hl hlen ?_ ⟨j, hj, ?_⟩ (fun i hi => ?_)
  · rw [h4.counts]; exact firsts_bd (fits_val hf)
  · rw [stays_at _ _ (by rw [leftAfter_len]; simpa using hj), hlj]; rfl
  · rw [cutTo_at _ _ (List.replicate lots.length false) (by rw [hlen]; simp) (fun j => by
      by_cases h : j < lots.length
      · simp [List.getD, h]
      · simp [List.getD, h]) _ _ (by rw [hlen]; exact hi), stays_at _ _ (by rw [leftAfter_len]; simpa using hi)]
    cases (leftAfter (List.replicate lots.length false) (rounds ps lots) ((rounds ps lots).length - 1)).getD i false <;> rfl
end Go.Proofs.Ytdcfpobjiofnmaa.Bp
