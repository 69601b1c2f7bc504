/-
  Plain words for transfers: counts as fractions of one denominator, who has most and least, the steps. No program in sight.
-/
import Derived.Test.YtiglkajafdecgaaRunoffPlain
import Derived.Test.YtiglkajafdecgaaFracPlain
namespace Go.Proofs.Ytiglkajafdecgaa.Bp
set_option linter.unusedVariables false
open Go

/-- a fraction's two numbers -/
abbrev Fr := Int × Int
/-- n of d parts, in lowest terms -/
def fr (d n : Int) : Fr := (Fp.rn n d, Fp.rd n d)
def frs (d : Int) (l : List Int) : List Fr := l.map (fr d)
theorem frs_len (d : Int) (l : List Int) : (frs d l).length = l.length := by simp [frs]
theorem frs_at (d : Int) (l : List Int) {k : Nat} (hk : k < l.length) : (frs d l).getD k default = fr d (l.getD k 0) := by simp [frs, List.getD, hk]
theorem fr_one (n : Int) : fr 1 n = (n, 1) := by
  have h : Fp.g n 1 = 1 := by unfold Fp.g; simp
  have := Fp.red_low n 1 h
  exact Prod.ext this.1 this.2
theorem fr_zero {d : Int} (hd : 1 ≤ d) : fr d 0 = (0, 1) := by
  have h := Fp.red_eq 0 d 0 1 hd (by omega) (by omega)
  have e := fr_one 0
  unfold fr at e ⊢
  rw [h.1, h.2]
  exact e
theorem fr_same {d e a b : Int} (hd : 1 ≤ d) (he : 1 ≤ e) (h : a * e = b * d) : fr d a = fr e b := by
  have := Fp.red_eq a d b e hd he h
  exact Prod.ext this.1 this.2
theorem fr_vld {d n : Int} (hd : 1 ≤ d) (hd' : d ≤ 9999999) (hn : -9999999 ≤ n) (hn' : n ≤ 9999999) : Fp.vld (fr d n).1 (fr d n).2 = true := Fp.ofn_in n d ((Fp.rng_iff n d).2 ⟨hn, hn', hd, hd'⟩)
theorem fr_bd {d n : Int} (hd : 1 ≤ d) (hn : 0 ≤ n) : 0 ≤ (fr d n).1 ∧ (fr d n).1 ≤ n ∧ 1 ≤ (fr d n).2 ∧ (fr d n).2 ≤ d := by
  have h1 := Fp.rn_abs n d hd
  have h2 := Fp.rd_pos n d hd
  have h3 := Fp.rd_le n d hd
  have h4 := Fp.rn_mul n d
  have h5 := Fp.g_pos n d hd
  refine ⟨?_, ?_, h2, h3⟩
  · show 0 ≤ Fp.rn n d
    rcases Int.lt_or_le (Fp.rn n d) 0 with h | h
    · have : Fp.rn n d * Fp.g n d < 0 := Int.mul_neg_of_neg_of_pos h (by omega)
      omega
    · exact h
  · show Fp.rn n d ≤ n
    omega
theorem fr_cross (d n : Int) : (fr d n).1 * d = n * (fr d n).2 := Fp.red_cross n d
/-- comparing is comparing across -/
theorem fr_less {d e a b : Int} (hd : 1 ≤ d) (he : 1 ≤ e) (ha : Fp.vld (fr d a).1 (fr d a).2 = true) (hb : Fp.vld (fr e b).1 (fr e b).2 = true) : Fp.less (fr d a).1 (fr d a).2 (fr e b).1 (fr e b).2 = decide (a * e < b * d) := by
  unfold Fp.less
  rw [ha, hb, Bool.true_and, Bool.true_and, decide_eq_decide]
  have c1 := fr_cross d a
  have c2 := fr_cross e b
  have p1 : 1 ≤ (fr d a).2 := Fp.rd_pos a d hd
  have p2 : 1 ≤ (fr e b).2 := Fp.rd_pos b e he
  have hP : 0 < (fr d a).2 * (fr e b).2 := Int.mul_pos (by omega) (by omega)
  have hD : 0 < d * e := Int.mul_pos (by omega) (by omega)
  have e1 : (fr d a).1 * (fr e b).2 * (d * e) = a * e * ((fr d a).2 * (fr e b).2) := by
    calc (fr d a).1 * (fr e b).2 * (d * e) = ((fr d a).1 * d) * ((fr e b).2 * e) := by ac_rfl
      _ = (a * (fr d a).2) * ((fr e b).2 * e) := by rw [c1]
      _ = a * e * ((fr d a).2 * (fr e b).2) := by ac_rfl
  have e2 : (fr e b).1 * (fr d a).2 * (d * e) = b * d * ((fr d a).2 * (fr e b).2) := by
    calc (fr e b).1 * (fr d a).2 * (d * e) = ((fr e b).1 * e) * ((fr d a).2 * d) := by ac_rfl
      _ = (b * (fr e b).2) * ((fr d a).2 * d) := by rw [c2]
      _ = b * d * ((fr d a).2 * (fr e b).2) := by ac_rfl
  constructor
  · intro h
    have := Int.mul_lt_mul_of_pos_right h hD
    rw [e1, e2] at this
    exact Int.lt_of_mul_lt_mul_right this (by omega)
  · intro h
    have := Int.mul_lt_mul_of_pos_right h hP
    rw [← e1, ← e2] at this
    exact Int.lt_of_mul_lt_mul_right this (by omega)
theorem fr_less_same {d a b : Int} (hd : 1 ≤ d) (ha : Fp.vld (fr d a).1 (fr d a).2 = true) (hb : Fp.vld (fr d b).1 (fr d b).2 = true) : Fp.less (fr d a).1 (fr d a).2 (fr d b).1 (fr d b).2 = decide (a < b) := by
  rw [fr_less hd hd ha hb, decide_eq_decide]
  exact ⟨fun h => Int.lt_of_mul_lt_mul_right h (by omega), fun h => Int.mul_lt_mul_of_pos_right h (by omega)⟩
theorem fr_less_whole {d a q : Int} (hd : 1 ≤ d) (ha : Fp.vld (fr d a).1 (fr d a).2 = true) (hq : -9999999 ≤ q) (hq' : q ≤ 9999999) : Fp.less (fr d a).1 (fr d a).2 q 1 = decide (a < q * d) := by
  have e := fr_one q
  have h := fr_less (e := 1) (b := q) hd (by omega) ha (fr_vld (by omega) (by omega) hq hq')
  rw [e] at h
  rw [h, Int.mul_one]
/-- the sum of two fractions -/
theorem fr_sum {d e a b : Int} (hd : 1 ≤ d) (he : 1 ≤ e) : fr ((fr d a).2 * (fr e b).2) ((fr d a).1 * (fr e b).2 + (fr e b).1 * (fr d a).2) = fr (d * e) (a * e + b * d) := by
  have c1 := fr_cross d a
  have c2 := fr_cross e b
  have p1 : 1 ≤ (fr d a).2 := Fp.rd_pos a d hd
  have p2 : 1 ≤ (fr e b).2 := Fp.rd_pos b e he
  refine fr_same (Fp.mul_pos _ _ p1 p2) (Fp.mul_pos _ _ hd he) ?_
  rw [Int.add_mul, Int.add_mul]
  congr 1
  · calc (fr d a).1 * (fr e b).2 * (d * e) = ((fr d a).1 * d) * ((fr e b).2 * e) := by ac_rfl
      _ = (a * (fr d a).2) * ((fr e b).2 * e) := by rw [c1]
      _ = a * e * ((fr d a).2 * (fr e b).2) := by ac_rfl
  · calc (fr e b).1 * (fr d a).2 * (d * e) = ((fr e b).1 * e) * ((fr d a).2 * d) := by ac_rfl
      _ = (b * (fr e b).2) * ((fr d a).2 * d) := by rw [c2]
      _ = b * d * ((fr d a).2 * (fr e b).2) := by ac_rfl
theorem fr_more {d a e : Int} (hd : 1 ≤ d) (he : 1 ≤ e) : fr (d * e) (a * e) = fr d a := fr_same (Fp.mul_pos _ _ hd he) hd (by ac_rfl)
theorem fr_sum_same {d a b : Int} (hd : 1 ≤ d) : fr ((fr d a).2 * (fr d b).2) ((fr d a).1 * (fr d b).2 + (fr d b).1 * (fr d a).2) = fr d (a + b) := by
  rw [fr_sum hd hd, ← Int.add_mul, fr_more hd hd]
/-- a fraction of m -/
theorem fr_part {d a m : Int} (hd : 1 ≤ d) : fr (fr d a).2 ((fr d a).1 * m) = fr d (a * m) := by
  refine fr_same (Fp.rd_pos a d hd) hd ?_
  have c := fr_cross d a
  calc (fr d a).1 * m * d = ((fr d a).1 * d) * m := by ac_rfl
    _ = (a * (fr d a).2) * m := by rw [c]
    _ = a * m * (fr d a).2 := by ac_rfl
/-- what is more than the quota, of a count -/
theorem fr_over (d n q : Int) : ((fr d n).1 - q * (fr d n).2) * n = (n - q * d) * (fr d n).1 := by
  have h1 : (fr d n).1 * Fp.g n d = n := Fp.rn_mul n d
  have h2 : (fr d n).2 * Fp.g n d = d := Fp.rd_mul n d
  obtain ⟨a, ha⟩ : ∃ a, (fr d n).1 = a := ⟨_, rfl⟩
  obtain ⟨b, hb⟩ : ∃ b, (fr d n).2 = b := ⟨_, rfl⟩
  obtain ⟨g, hg⟩ : ∃ g, Fp.g n d = g := ⟨_, rfl⟩
  rw [ha, hg] at h1
  rw [hb, hg] at h2
  rw [ha, hb, ← h1, ← h2, Int.sub_mul, Int.sub_mul]
  congr 1
  · ac_rfl
  · ac_rfl
theorem fr_num_pos {d n : Int} (hd : 1 ≤ d) (hn : 1 ≤ n) : 1 ≤ (fr d n).1 := by
  have h1 : (fr d n).1 * Fp.g n d = n := Fp.rn_mul n d
  have h0 := (fr_bd hd (show 0 ≤ n by omega)).1
  rcases Int.lt_or_le 0 (fr d n).1 with h | h
  · exact h
  · have : (fr d n).1 = 0 := by omega
    rw [this, Int.zero_mul] at h1
    omega
theorem fr_factor {d n q : Int} (hd : 1 ≤ d) (hn : 1 ≤ n) : fr (fr d n).1 ((fr d n).1 - q * (fr d n).2) = fr n (n - q * d) :=
  fr_same (fr_num_pos hd hn) hn (fr_over d n q)
/-- a weight multiplied by a factor, as the program does -/
theorem fr_times {d a n b : Int} (hd : 1 ≤ d) (hn : 1 ≤ n) : fr ((fr d a).2 * (fr n b).2) ((fr d a).1 * (fr n b).1) = fr (d * n) (a * b) := by
  have c1 := fr_cross d a
  have c2 := fr_cross n b
  have p1 : 1 ≤ (fr d a).2 := Fp.rd_pos a d hd
  have p2 : 1 ≤ (fr n b).2 := Fp.rd_pos b n hn
  refine fr_same (Fp.mul_pos _ _ p1 p2) (Fp.mul_pos _ _ hd hn) ?_
  calc (fr d a).1 * (fr n b).1 * (d * n) = ((fr d a).1 * d) * ((fr n b).1 * n) := by ac_rfl
    _ = (a * (fr d a).2) * (b * (fr n b).2) := by rw [c1, c2]
    _ = a * b * ((fr d a).2 * (fr n b).2) := by ac_rfl
/-- a weight multiplied by a factor, as the reference does -/
theorem fr_weigh {d a n q : Int} (hd : 1 ≤ d) (hn : 1 ≤ n) : fr ((fr d a).2 * (fr d n).1) ((fr d a).1 * ((fr d n).1 - q * (fr d n).2)) = fr (d * n) (a * (n - q * d)) := by
  have c1 := fr_cross d a
  have c2 := fr_over d n q
  have p1 : 1 ≤ (fr d a).2 := Fp.rd_pos a d hd
  have p2 := fr_num_pos hd hn
  refine fr_same (Fp.mul_pos _ _ p1 p2) (Fp.mul_pos _ _ hd hn) ?_
  calc (fr d a).1 * ((fr d n).1 - q * (fr d n).2) * (d * n) = ((fr d a).1 * d) * (((fr d n).1 - q * (fr d n).2) * n) := by ac_rfl
    _ = (a * (fr d a).2) * ((n - q * d) * (fr d n).1) := by rw [c1, c2]
    _ = a * (n - q * d) * ((fr d a).2 * (fr d n).1) := by ac_rfl

/-- the counts' numerators behind the first k piles: u the weights' numerators -/
def numTo (ps : List Pile) (u : List Int) (lf : List Bool) : Nat → List Int
  | 0 => List.replicate lf.length 0
  | k + 1 => if 0 ≤ bfirst (bal (ps.getD k default).1) lf then bump (numTo ps u lf k) (bfirst (bal (ps.getD k default).1) lf).toNat (u.getD k 0 * (ps.getD k default).2) else numTo ps u lf k
def nums (ps : List Pile) (u : List Int) (lf : List Bool) : List Int := numTo ps u lf ps.length
theorem numTo_len (ps : List Pile) (u : List Int) (lf : List Bool) : ∀ k, (numTo ps u lf k).length = lf.length
  | 0 => by simp [numTo]
  | k + 1 => by
    rw [numTo]
    split
    · rw [bump_len, numTo_len ps u lf k]
    · exact numTo_len ps u lf k
theorem nums_len (ps : List Pile) (u : List Int) (lf : List Bool) : (nums ps u lf).length = lf.length := numTo_len ps u lf _
theorem numTo_bd {ps : List Pile} {u : List Int} {lf : List Bool} {d : Int} (hv : psval ps = true) (hu : ∀ k, 0 ≤ u.getD k 0 ∧ u.getD k 0 ≤ d) (hd : 1 ≤ d) : ∀ k, k ≤ ps.length → Bd (numTo ps u lf k) (d * sumTo ps k)
  | 0, _ => by
    rw [sumTo, Int.mul_zero]
    exact Bd.zero lf.length
  | k + 1, hk => by
    have ih := numTo_bd (lf := lf) hv hu hd k (by omega)
    have h1 := (pval_iff _).1 (psval_at ps hv k (by omega))
    have h2 := hu k
    have hs := sumTo_bd hv k (by omega)
    have h0 : 0 ≤ d * sumTo ps k := Int.mul_nonneg (by omega) hs.1
    have h3 : 0 ≤ u.getD k 0 * (ps.getD k default).2 := Int.mul_nonneg h2.1 (by omega)
    have h4 : u.getD k 0 * (ps.getD k default).2 ≤ d * (ps.getD k default).2 := Int.mul_le_mul_of_nonneg_right h2.2 (by omega)
    have h5 : 0 ≤ d * (ps.getD k default).2 := by omega
    rw [numTo, sumTo, Int.mul_add]
    split
    · exact ih.bump _ h3 h4 h0
    · exact ih.mono (by omega)
theorem sumTo_mono {ps : List Pile} (hv : psval ps = true) : ∀ k d, k + d ≤ ps.length → sumTo ps k ≤ sumTo ps (k + d)
  | k, 0, _ => Int.le_refl _
  | k, d + 1, h => by
    have ih := sumTo_mono hv k d (by omega)
    have h1 := (pval_iff _).1 (psval_at ps hv (k + d) (by omega))
    have e : sumTo ps (k + (d + 1)) = sumTo ps (k + d) + (ps.getD (k + d) default).2 := rfl
    omega
theorem sumTo_le {ps : List Pile} (hv : psval ps = true) {k : Nat} (hk : k ≤ ps.length) : sumTo ps k ≤ psum ps := by
  have := sumTo_mono hv k (ps.length - k) (by omega)
  rwa [show k + (ps.length - k) = ps.length by omega] at this
theorem numTo_bd' {ps : List Pile} {u : List Int} {lf : List Bool} {d : Int} (hv : psval ps = true) (hs : psum ps ≤ 60) (hu : ∀ k, 0 ≤ u.getD k 0 ∧ u.getD k 0 ≤ d) (hd : 1 ≤ d) (k : Nat) (hk : k ≤ ps.length) : Bd (numTo ps u lf k) (d * 60) :=
  (numTo_bd hv hu hd k hk).mono (Int.mul_le_mul_of_nonneg_left (by have := sumTo_le hv hk; omega) (by omega))
theorem nums_bd {ps : List Pile} {u : List Int} {lf : List Bool} {d : Int} (hv : psval ps = true) (hs : psum ps ≤ 60) (hu : ∀ k, 0 ≤ u.getD k 0 ∧ u.getD k 0 ≤ d) (hd : 1 ≤ d) : Bd (nums ps u lf) (d * 60) := numTo_bd' hv hs hu hd _ (Nat.le_refl _)

/-- who has most of those who are there, up to place k of the lots: of several ones whose lot comes first -/
def hiTo (counts : List Int) (left : List Bool) (lots : List Int) : Nat → Int
  | 0 => -1
  | k + 1 => if left.getD (lots.getD k 0).toNat false then hiTo counts left lots k else
      if hiTo counts left lots k < 0 ∨ counts.getD (hiTo counts left lots k).toNat 0 < counts.getD (lots.getD k 0).toNat 0 then lots.getD k 0 else hiTo counts left lots k
def hi (counts : List Int) (left : List Bool) (lots : List Int) : Int := hiTo counts left lots lots.length
theorem hiTo_is (counts : List Int) (left : List Bool) (lots : List Int) (hr : ∀ j, j < lots.length → 0 ≤ lots.getD j 0) : ∀ k, k ≤ lots.length →
    (hiTo counts left lots k = -1 ∧ ∀ j, j < k → left.getD (lots.getD j 0).toNat false = true) ∨
    (∃ p, p < k ∧ hiTo counts left lots k = lots.getD p 0 ∧ left.getD (lots.getD p 0).toNat false = false ∧
      (∀ j, j < k → left.getD (lots.getD j 0).toNat false = false → counts.getD (lots.getD j 0).toNat 0 ≤ counts.getD (lots.getD p 0).toNat 0))
  | 0, _ => .inl ⟨rfl, fun j hj => absurd hj (by omega)⟩
  | k + 1, hk => by
    have ih := hiTo_is counts left lots hr k (by omega)
    rw [hiTo]
    cases hl : left.getD (lots.getD k 0).toNat false
    · rcases ih with ⟨e, h1⟩ | ⟨p, hp, e, hlp, h1⟩
      · rw [e, if_neg (by simp), if_pos (.inl (by omega))]
        refine .inr ⟨k, by omega, rfl, hl, fun j hj hlj => ?_⟩
        by_cases hjk : j = k
        · subst hjk; exact Int.le_refl _
        · rw [h1 j (by omega)] at hlj; cases hlj
      · have hp0 := hr p (by omega)
        rw [e, if_neg (by simp)]
        by_cases hc : counts.getD (lots.getD p 0).toNat 0 < counts.getD (lots.getD k 0).toNat 0
        · rw [if_pos (.inr hc)]
          refine .inr ⟨k, by omega, rfl, hl, fun j hj hlj => ?_⟩
          by_cases hjk : j = k
          · subst hjk; exact Int.le_refl _
          · have := h1 j (by omega) hlj; omega
        · rw [if_neg (by omega)]
          refine .inr ⟨p, by omega, rfl, hlp, fun j hj hlj => ?_⟩
          by_cases hjk : j = k
          · subst hjk; omega
          · exact h1 j (by omega) hlj
    · rw [if_pos rfl]
      rcases ih with ⟨e, h1⟩ | ⟨p, hp, e, hlp, h1⟩
      · refine .inl ⟨e, fun j hj => ?_⟩
        by_cases hjk : j = k
        · subst hjk; exact hl
        · exact h1 j (by omega)
      · refine .inr ⟨p, by omega, e, hlp, fun j hj hlj => ?_⟩
        by_cases hjk : j = k
        · subst hjk; rw [hl] at hlj; cases hlj
        · exact h1 j (by omega) hlj
theorem hiTo_range (counts : List Int) (left : List Bool) {lots : List Int} (hl : lval lots = true) (k : Nat) (hk : k ≤ lots.length) : hiTo counts left lots k = -1 ∨ ∃ p : Nat, p < lots.length ∧ hiTo counts left lots k = p := by
  rcases hiTo_is counts left lots (fun j hj => (lval_at hl j hj).1) k hk with ⟨e, _⟩ | ⟨p, hp, e, _⟩
  · exact .inl e
  · have h1 := lval_at hl p (by omega)
    obtain ⟨q, hq⟩ := Int.eq_ofNat_of_zero_le h1.1
    rw [hq] at e h1
    exact .inr ⟨q, by omega, e⟩
theorem loTo_range (counts : List Int) (left : List Bool) {lots : List Int} (hl : lval lots = true) (k : Nat) (hk : k ≤ lots.length) : leastTo counts left lots k = -1 ∨ ∃ p : Nat, p < lots.length ∧ leastTo counts left lots k = p := by
  rcases leastTo_is counts left lots (fun j hj => (lval_at hl j hj).1) k hk with ⟨e, _⟩ | ⟨p, hp, e, _⟩
  · exact .inl e
  · have h1 := lval_at hl p (by omega)
    obtain ⟨q, hq⟩ := Int.eq_ofNat_of_zero_le h1.1
    rw [hq] at e h1
    exact .inr ⟨q, by omega, e⟩
theorem all_gone {left : List Bool} {lots : List Int} (hl : lval lots = true) (hn : left.length = lots.length) (h1 : ∀ j, j < lots.length → left.getD (lots.getD j 0).toNat false = true) : there left = 0 := by
  have hall : ∀ k, k ≤ left.length → thereTo left k = 0 := by
    intro k
    induction k with
    | zero => intro _; rfl
    | succ k ih =>
      intro hk
      obtain ⟨j, hj, e⟩ := List.getElem_of_mem (lval_all hl k (by omega))
      have := h1 j hj
      rw [getD_get _ _ hj, e, Int.toNat_natCast] at this
      rw [thereTo, this, ih (by omega)]
      rfl
  exact hall _ (Nat.le_refl _)
/-- who is chosen is there, and has most -/
structure Hi (counts : List Int) (left : List Bool) (n : Nat) (c : Nat) : Prop where
  lt : c < n
  there : left.getD c false = false
  most : ∀ j, j < n → left.getD j false = false → counts.getD j 0 ≤ counts.getD c 0
structure Lo (counts : List Int) (left : List Bool) (n : Nat) (c : Nat) : Prop where
  lt : c < n
  there : left.getD c false = false
  least : ∀ j, j < n → left.getD j false = false → counts.getD c 0 ≤ counts.getD j 0
theorem hi_is {counts : List Int} {left : List Bool} {lots : List Int} (hl : lval lots = true) (hn : left.length = lots.length) (ht : Bp.there left ≠ 0) : ∃ c : Nat, hi counts left lots = c ∧ Hi counts left lots.length c := by
  rcases hiTo_is counts left lots (fun j hj => (lval_at hl j hj).1) lots.length (Nat.le_refl _) with ⟨_, h1⟩ | ⟨p, hp, e, hlp, h1⟩
  · exact absurd (all_gone hl hn h1) ht
  · have hr := lval_at hl p hp
    obtain ⟨c, hc⟩ := Int.eq_ofNat_of_zero_le hr.1
    rw [hc] at e hlp hr h1
    refine ⟨c, e, by omega, by simpa using hlp, fun j hj hlj => ?_⟩
    obtain ⟨i, hi', e2⟩ := List.getElem_of_mem (lval_all hl j hj)
    have := h1 i hi'
    rw [getD_get _ _ hi', e2, Int.toNat_natCast, Int.toNat_natCast] at this
    exact this hlj
theorem lo_is {counts : List Int} {left : List Bool} {lots : List Int} (hl : lval lots = true) (hn : left.length = lots.length) (ht : Bp.there left ≠ 0) : ∃ c : Nat, least counts left lots = c ∧ Lo counts left lots.length c := by
  obtain ⟨p, hp, e, hlp, h1, _⟩ := least_is counts left lots hl hn ht
  have hr := lval_at hl p hp
  obtain ⟨c, hc⟩ := Int.eq_ofNat_of_zero_le hr.1
  rw [hc] at e hlp hr h1
  refine ⟨c, e, by omega, by simpa using hlp, fun j hj hlj => ?_⟩
  obtain ⟨i, hi', e2⟩ := List.getElem_of_mem (lval_all hl j hj)
  have := h1 i hi'
  rw [getD_get _ _ hi', e2, Int.toNat_natCast, Int.toNat_natCast] at this
  exact this hlj

/-- the first k weights after a candidate got a seat -/
def weighTo (ps : List Pile) (u : List Int) (lf : List Bool) (who over num : Int) : Nat → List Int
  | 0 => []
  | k + 1 => weighTo ps u lf who over num k ++ [if bfirst (bal (ps.getD k default).1) lf = who then u.getD k 0 * over else u.getD k 0 * num]
def weigh (ps : List Pile) (u : List Int) (lf : List Bool) (who over num : Int) : List Int := weighTo ps u lf who over num ps.length
theorem weighTo_len (ps : List Pile) (u : List Int) (lf : List Bool) (who over num : Int) : ∀ k, (weighTo ps u lf who over num k).length = k
  | 0 => rfl
  | k + 1 => by rw [weighTo, List.length_append, weighTo_len ps u lf who over num k]; rfl
theorem weighTo_at (ps : List Pile) (u : List Int) (lf : List Bool) (who over num : Int) : ∀ k j, j < k → (weighTo ps u lf who over num k).getD j 0 = if bfirst (bal (ps.getD j default).1) lf = who then u.getD j 0 * over else u.getD j 0 * num
  | 0, _, h => absurd h (by omega)
  | k + 1, j, h => by
    rw [weighTo]
    by_cases e : j = k
    · subst e
      simp [List.getD, weighTo_len]
    · have := weighTo_at ps u lf who over num k j (by omega)
      rw [← this]
      simp [List.getD, List.getElem?_append_left (show j < (weighTo ps u lf who over num k).length by rw [weighTo_len]; omega)]

/-- a step: the counts' numerators and their denominator, who, what happens -/
structure Stp where
  ns : List Int
  d : Int
  who : Int
  kind : Int
instance : Inhabited Stp := ⟨⟨[], 1, 0, 0⟩⟩
/-- the state ahead of a step: how many seats are left, the weights' denominator and numerators, who has left -/
structure Tst where
  s : Int
  d : Int
  u : List Int
  lf : List Bool
def Tst.ns (t : Tst) (ps : List Pile) : List Int := nums ps t.u t.lf
def Tst.hi (t : Tst) (ps : List Pile) (lots : List Int) : Int := Bp.hi (t.ns ps) t.lf lots
def Tst.top (t : Tst) (ps : List Pile) (lots : List Int) : Int := (t.ns ps).getD (t.hi ps lots).toNat 0
def Tst.kind (t : Tst) (ps : List Pile) (lots : List Int) (q : Int) : Int := if q * t.d ≤ t.top ps lots then 1 else if there t.lf ≤ t.s then 3 else 2
def Tst.who (t : Tst) (ps : List Pile) (lots : List Int) (q : Int) : Int := if t.kind ps lots q = 2 then least (t.ns ps) t.lf lots else t.hi ps lots
def Tst.stp (t : Tst) (ps : List Pile) (lots : List Int) (q : Int) : Stp := ⟨t.ns ps, t.d, t.who ps lots q, t.kind ps lots q⟩
def Tst.next (t : Tst) (ps : List Pile) (lots : List Int) (q : Int) : Tst :=
  ⟨if t.kind ps lots q = 2 then t.s else t.s - 1, if t.kind ps lots q = 1 then t.d * t.top ps lots else t.d,
   if t.kind ps lots q = 1 then weigh ps t.u t.lf (t.hi ps lots) (t.top ps lots - q * t.d) (t.top ps lots) else t.u, t.lf.set (t.who ps lots q).toNat true⟩
/-- the steps from a state on, at most f of them -/
def tsteps (ps : List Pile) (lots : List Int) (q : Int) : Nat → Tst → List Stp
  | 0, _ => []
  | f + 1, t => if t.s ≤ 0 then [] else t.stp ps lots q :: tsteps ps lots q f (t.next ps lots q)
def tstart (ps : List Pile) (lots : List Int) (seats : Int) : Tst := ⟨seats, 1, List.replicate ps.length 1, List.replicate lots.length false⟩
def tquota (ps : List Pile) (seats : Int) : Int := psum ps / (seats + 1) + 1
def transfer (ps : List Pile) (lots : List Int) (seats : Int) : List Stp := tsteps ps lots (tquota ps seats) lots.length (tstart ps lots seats)
/-- what holds of each state -/
structure Tok (ps : List Pile) (lots : List Int) (f : Nat) (t : Tst) : Prop where
  len : t.lf.length = lots.length
  there : Bp.there t.lf = f
  s0 : 0 ≤ t.s
  sf : t.s ≤ f
  two : t.s ≤ 2
  one : t.s = 2 → t.d = 1
  ul : t.u.length = ps.length
  d1 : 1 ≤ t.d
  d60 : 1 ≤ t.s → t.d ≤ 60
  u : ∀ k, 0 ≤ t.u.getD k 0 ∧ t.u.getD k 0 ≤ t.d
theorem Tst.kind_cases (t : Tst) (ps : List Pile) (lots : List Int) (q : Int) : (t.kind ps lots q = 1 ∧ q * t.d ≤ t.top ps lots) ∨ (t.kind ps lots q = 3 ∧ t.top ps lots < q * t.d ∧ Bp.there t.lf ≤ t.s) ∨ (t.kind ps lots q = 2 ∧ t.top ps lots < q * t.d ∧ t.s < Bp.there t.lf) := by
  unfold Tst.kind
  by_cases h1 : q * t.d ≤ t.top ps lots
  · rw [if_pos h1]; exact .inl ⟨rfl, h1⟩
  · rw [if_neg h1]
    by_cases h2 : Bp.there t.lf ≤ t.s
    · rw [if_pos h2]; exact .inr (.inl ⟨rfl, by omega, h2⟩)
    · rw [if_neg h2]; exact .inr (.inr ⟨rfl, by omega, by omega⟩)
section
variable {ps : List Pile} {lots : List Int} {q : Int} {f : Nat} {t : Tst}
theorem Tok.hi (h : Tok ps lots (f + 1) t) (hl : lval lots = true) : ∃ c : Nat, t.hi ps lots = c ∧ t.top ps lots = (t.ns ps).getD c 0 ∧ Hi (t.ns ps) t.lf lots.length c := by
  obtain ⟨c, e, h1⟩ := hi_is (counts := t.ns ps) hl h.len (by rw [h.there]; omega)
  exact ⟨c, e, by unfold Tst.top; rw [show t.hi ps lots = c from e]; rfl, h1⟩
theorem Tok.who (h : Tok ps lots (f + 1) t) (hl : lval lots = true) : ∃ c : Nat, t.who ps lots q = c ∧ c < lots.length ∧ t.lf.getD c false = false ∧ (t.kind ps lots q ≠ 2 → t.hi ps lots = c ∧ Hi (t.ns ps) t.lf lots.length c) ∧ (t.kind ps lots q = 2 → Lo (t.ns ps) t.lf lots.length c) := by
  unfold Tst.who
  by_cases hk : t.kind ps lots q = 2
  · obtain ⟨c, e, h1⟩ := lo_is (counts := t.ns ps) hl h.len (by rw [h.there]; omega)
    rw [if_pos hk]
    exact ⟨c, e, h1.lt, h1.there, fun h => absurd hk h, fun _ => h1⟩
  · obtain ⟨c, e, _, h1⟩ := h.hi hl
    rw [if_neg hk]
    exact ⟨c, e, h1.lt, h1.there, fun _ => ⟨e, h1⟩, fun h => absurd h hk⟩
theorem Tok.bd (h : Tok ps lots f t) (hv : psval ps = true) (hs : psum ps ≤ 60) : Bd (t.ns ps) (t.d * 60) := nums_bd hv hs h.u h.d1
theorem Tok.next (h : Tok ps lots (f + 1) t) (hl : lval lots = true) (hv : psval ps = true) (hs : psum ps ≤ 60) (hq : 1 ≤ q) (h1 : 1 ≤ t.s) : Tok ps lots f (t.next ps lots q) := by
  obtain ⟨c, hc, hclt, hcl, _, _⟩ := h.who (q := q) hl
  have hb := h.bd hv hs
  have hlen : (t.next ps lots q).lf.length = lots.length := by
    show (t.lf.set _ true).length = _
    rw [List.length_set]; exact h.len
  have hth : Bp.there (t.next ps lots q).lf = f := by
    show Bp.there (t.lf.set (t.who ps lots q).toNat true) = _
    rw [hc, Int.toNat_natCast, there_set t.lf c hcl (by rw [h.len]; exact hclt), h.there]
    omega
  have hd60 := h.d60 h1
  have hd1 := h.d1
  have hsf := h.sf
  have htwo := h.two
  have hthere := h.there
  rcases t.kind_cases ps lots q with ⟨hk, hge⟩ | ⟨hk, hlt, hle⟩ | ⟨hk, hlt, hle⟩
  · have es : (t.next ps lots q).s = t.s - 1 := if_neg (by rw [hk]; decide)
    have ed : (t.next ps lots q).d = t.d * t.top ps lots := if_pos hk
    have eu : (t.next ps lots q).u = weigh ps t.u t.lf (t.hi ps lots) (t.top ps lots - q * t.d) (t.top ps lots) := if_pos hk
    have hqd : 1 * 1 ≤ q * t.d := Int.mul_le_mul hq hd1 (by omega) (by omega)
    have htop : t.top ps lots ≤ t.d * 60 := (hb _).2
    refine ⟨hlen, hth, by omega, by omega, by omega, fun e => by omega, by rw [eu]; exact weighTo_len .., ?_, fun e => ?_, fun k => ?_⟩
    · rw [ed]; exact Fp.mul_pos _ _ hd1 (by omega)
    · have := h.one (by omega)
      rw [this] at htop ed
      omega
    · rw [eu, ed]
      by_cases hk2 : k < ps.length
      · have hu := h.u k
        unfold weigh
        rw [weighTo_at _ _ _ _ _ _ _ _ hk2]
        split
        · exact ⟨Int.mul_nonneg hu.1 (by omega), Int.mul_le_mul hu.2 (by omega) (by omega) (by omega)⟩
        · exact ⟨Int.mul_nonneg hu.1 (by omega), Int.mul_le_mul_of_nonneg_right hu.2 (by omega)⟩
      · have e0 : (weigh ps t.u t.lf (t.hi ps lots) (t.top ps lots - q * t.d) (t.top ps lots)).getD k 0 = 0 := by
          simp [List.getD, List.getElem?_eq_none (show (weigh ps t.u t.lf (t.hi ps lots) (t.top ps lots - q * t.d) (t.top ps lots)).length ≤ k by unfold weigh; rw [weighTo_len]; omega)]
        rw [e0]
        exact ⟨Int.le_refl _, Int.mul_nonneg (by omega) (by omega)⟩
  · have es : (t.next ps lots q).s = t.s - 1 := if_neg (by rw [hk]; decide)
    have ed : (t.next ps lots q).d = t.d := if_neg (by rw [hk]; decide)
    have eu : (t.next ps lots q).u = t.u := if_neg (by rw [hk]; decide)
    refine ⟨hlen, hth, by omega, by omega, by omega, fun e => by omega, by rw [eu]; exact h.ul, by omega, fun _ => by omega, fun k => by rw [eu, ed]; exact h.u k⟩
  · have es : (t.next ps lots q).s = t.s := if_pos hk
    have ed : (t.next ps lots q).d = t.d := if_neg (by rw [hk]; decide)
    have eu : (t.next ps lots q).u = t.u := if_neg (by rw [hk]; decide)
    refine ⟨hlen, hth, by omega, by omega, by omega, fun e => by rw [ed]; exact h.one (by omega), by rw [eu]; exact h.ul, by omega, fun _ => by omega, fun k => by rw [eu, ed]; exact h.u k⟩
end
theorem tstart_ok {ps : List Pile} {lots : List Int} {seats : Int} (h1 : 1 ≤ seats) (h2 : seats ≤ 2) (h3 : seats ≤ lots.length) : Tok ps lots lots.length (tstart ps lots seats) :=
  ⟨by simp [tstart], by show Bp.there (List.replicate lots.length false) = _; rw [there_fresh], by show 0 ≤ seats; omega, h3, h2, fun _ => rfl, by simp [tstart], Int.le_refl _, fun _ => by show (1 : Int) ≤ 60; omega, fun k => by
    show 0 ≤ (List.replicate ps.length (1 : Int)).getD k 0 ∧ (List.replicate ps.length (1 : Int)).getD k 0 ≤ 1
    by_cases h : k < ps.length
    · simp [List.getD, h]
    · simp [List.getD, h]⟩
theorem tquota_bd {ps : List Pile} {seats : Int} (hv : psval ps = true) (hs : psum ps ≤ 60) (h1 : 1 ≤ seats) : 1 ≤ tquota ps seats ∧ tquota ps seats ≤ 61 := by
  have h0 := (psum_bd hv).1
  have ha : 0 ≤ psum ps / (seats + 1) := Int.ediv_nonneg h0 (by omega)
  have hb : psum ps / (seats + 1) ≤ psum ps := Int.ediv_le_self _ h0
  unfold tquota
  omega
/-- may these be transferred? -/
def tval (ps : List Pile) (lots : List Int) (seats : Int) : Bool := lval lots && fits ps lots.length && (decide (1 ≤ seats) && decide (seats ≤ 2) && decide (seats ≤ lots.length)) && decide (psum ps ≤ 60)
theorem tval_iff (ps : List Pile) (lots : List Int) (seats : Int) : tval ps lots seats = true ↔ (lval lots = true ∧ fits ps lots.length = true ∧ (1 ≤ seats ∧ seats ≤ 2 ∧ seats ≤ lots.length) ∧ psum ps ≤ 60) := by
  simp [tval, and_assoc]
end Go.Proofs.Ytiglkajafdecgaa.Bp
