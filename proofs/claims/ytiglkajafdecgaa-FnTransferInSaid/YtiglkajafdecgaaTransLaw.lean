/-
  Plain laws of transfers: who has the quota gets a seat, who has least leaves, seats that are left, sums, solid groups. No program in sight.
-/
import Derived.Test.YtiglkajafdecgaaTransPlain
namespace Go.Proofs.Ytiglkajafdecgaa.Bp
set_option linter.unusedVariables false
open Go

/-- the state behind k steps -/
def tat (ps : List Pile) (lots : List Int) (q : Int) : Nat → Tst → Tst
  | 0, t => t
  | k + 1, t => tat ps lots q k (t.next ps lots q)
theorem tat_succ (ps : List Pile) (lots : List Int) (q : Int) : ∀ (k : Nat) (t : Tst), tat ps lots q (k + 1) t = (tat ps lots q k t).next ps lots q
  | 0, _ => rfl
  | k + 1, t => tat_succ ps lots q k (t.next ps lots q)
theorem tsteps_stop (ps : List Pile) (lots : List Int) (q : Int) {t : Tst} (h : t.s ≤ 0) : ∀ f, tsteps ps lots q f t = []
  | 0 => rfl
  | f + 1 => by rw [tsteps, if_pos h]
theorem tsteps_go (ps : List Pile) (lots : List Int) (q : Int) {t : Tst} (h : 1 ≤ t.s) (f : Nat) : tsteps ps lots q (f + 1) t = t.stp ps lots q :: tsteps ps lots q f (t.next ps lots q) := by
  rw [tsteps, if_neg (by omega)]
section
variable {ps : List Pile} {lots : List Int} {q : Int}
theorem tsteps_run (hl : lval lots = true) (hv : psval ps = true) (hs : psum ps ≤ 60) (hq : 1 ≤ q) : ∀ (f : Nat) (t : Tst), Tok ps lots f t →
    (tsteps ps lots q f t).length ≤ f ∧ (tat ps lots q (tsteps ps lots q f t).length t).s = 0 ∧ Tok ps lots (f - (tsteps ps lots q f t).length) (tat ps lots q (tsteps ps lots q f t).length t) ∧
      ∀ k, k < (tsteps ps lots q f t).length → (tsteps ps lots q f t).getD k default = (tat ps lots q k t).stp ps lots q ∧ 1 ≤ (tat ps lots q k t).s ∧ ∃ g, f = g + 1 + k ∧ Tok ps lots (g + 1) (tat ps lots q k t)
  | 0, t, h => by
    have h1 := h.s0
    have h2 := h.sf
    refine ⟨Nat.le_refl _, ?_, h, fun k hk => absurd hk (by simp [tsteps])⟩
    show t.s = 0
    omega
  | f + 1, t, h => by
    by_cases h1 : 1 ≤ t.s
    · rw [tsteps_go ps lots q h1 f]
      obtain ⟨i1, i2, i3, i4⟩ := tsteps_run hl hv hs hq f (t.next ps lots q) (h.next hl hv hs hq h1)
      refine ⟨by rw [List.length_cons]; omega, i2, by rw [List.length_cons, Nat.add_sub_add_right]; exact i3, fun k hk => ?_⟩
      match k, hk with
      | 0, _ => exact ⟨rfl, h1, f, rfl, h⟩
      | k + 1, hk =>
        obtain ⟨j1, j2, g, j3, j4⟩ := i4 k (by simpa using hk)
        exact ⟨j1, j2, g, by omega, j4⟩
    · have h2 := h.s0
      rw [tsteps_stop ps lots q (by omega)]
      refine ⟨Nat.zero_le _, ?_, h, fun k hk => absurd hk (by simp)⟩
      show t.s = 0
      omega

/-- nobody who has left is a ballot's first -/
theorem bfirst_there (b : List Int) (left : List Bool) : bfirst b left = -1 ∨ (bfirst b left ∈ b ∧ left.getD (bfirst b left).toNat false = false) := by
  rcases firstOf_cases (fun c => !left.getD c.toNat false) b with ⟨h1, _⟩ | ⟨h1, h2⟩
  · exact .inl h1
  · exact .inr ⟨h1, by
      have : (!left.getD (bfirst b left).toNat false) = true := h2
      simpa using this⟩
theorem numTo_gone {u : List Int} {lf : List Bool} {c : Nat} (hc : lf.getD c false = true) : ∀ k, (numTo ps u lf k).getD c 0 = 0
  | 0 => by
    rw [numTo]
    by_cases h : c < lf.length
    · simp [List.getD, h]
    · simp [List.getD, h]
  | k + 1 => by
    have ih := numTo_gone (u := u) hc k
    rw [numTo]
    split
    next h =>
      rcases bfirst_there (bal (ps.getD k default).1) lf with h1 | ⟨_, h2⟩
      · omega
      · by_cases hcl : c < (numTo ps u lf k).length
        · rw [bump_at _ _ _ _ hcl, if_neg (fun e => by rw [← e, hc] at h2; cases h2)]
          exact ih
        · have : (bump (numTo ps u lf k) (bfirst (bal (ps.getD k default).1) lf).toNat (u.getD k 0 * (ps.getD k default).2)).getD c 0 = 0 := by
            unfold List.getD
            rw [List.getElem?_eq_none (by rw [bump_len]; omega)]
            rfl
          exact this
    next => exact ih
theorem nums_gone {u : List Int} {lf : List Bool} {c : Nat} (hc : lf.getD c false = true) : (nums ps u lf).getD c 0 = 0 := numTo_gone hc _

/-- what holds of a step: m candidates, the quota q -/
structure StepLaw (lots : List Int) (q : Int) (t : Tst) (s : Stp) (p : Nat) : Prop where
  who : s.who = p
  lt : p < lots.length
  free : t.lf.getD p false = false
  len : s.ns.length = lots.length
  d1 : 1 ≤ s.d
  d60 : s.d ≤ 60
  bd : Bd s.ns (s.d * 60)
  kind : s.kind = 1 ∨ s.kind = 2 ∨ s.kind = 3
  own : s.kind = 1 ↔ q * s.d ≤ s.ns.getD p 0
  most : s.kind ≠ 2 → ∀ j, j < lots.length → s.ns.getD j 0 ≤ s.ns.getD p 0
  few : s.kind = 2 → ∀ j, j < lots.length → s.ns.getD j 0 < q * s.d
  least : s.kind = 2 → ∀ j, j < lots.length → t.lf.getD j false = false → s.ns.getD p 0 ≤ s.ns.getD j 0
  gone : ∀ j, t.lf.getD j false = true → s.ns.getD j 0 = 0
  rest : s.kind = 3 → there t.lf ≤ t.s
  out : s.kind = 2 → t.s < there t.lf
theorem step_law {f : Nat} {t : Tst} (hl : lval lots = true) (hv : psval ps = true) (hs : psum ps ≤ 60) (hq : 1 ≤ q) (h : Tok ps lots (f + 1) t) (h1 : 1 ≤ t.s) : ∃ p : Nat, StepLaw lots q t (t.stp ps lots q) p := by
  obtain ⟨c, hc, hclt, hcl, hmost, hleast⟩ := h.who (q := q) hl
  obtain ⟨x, hx, htop, hhi⟩ := h.hi hl
  have hb : Bd (t.ns ps) (t.d * 60) := h.bd hv hs
  have hd1 := h.d1
  have hqd : 1 * 1 ≤ q * t.d := Int.mul_le_mul hq hd1 (by omega) (by omega)
  have hall : ∀ j, j < lots.length → (t.ns ps).getD j 0 ≤ t.top ps lots := fun j hj => by
    cases hg : t.lf.getD j false
    · rw [htop]; exact hhi.most j hj hg
    · have e0 : (t.ns ps).getD j 0 = 0 := nums_gone hg
      rw [e0, htop]
      exact (hb x).1
  have hk := t.kind_cases ps lots q
  have htopc : t.kind ps lots q ≠ 2 → t.top ps lots = (t.ns ps).getD c 0 := fun hk2 => by
    have e := (hmost hk2).1
    unfold Tst.top
    rw [e]
    rfl
  refine ⟨c, hc, hclt, hcl, ?_, hd1, h.d60 h1, hb, ?_, ?_, ?_, ?_, ?_, ?_, ?_, ?_⟩
  · show (nums ps t.u t.lf).length = _
    rw [nums_len]; exact h.len
  · show t.kind ps lots q = 1 ∨ t.kind ps lots q = 2 ∨ t.kind ps lots q = 3
    omega
  · show t.kind ps lots q = 1 ↔ q * t.d ≤ (t.ns ps).getD c 0
    by_cases hk2 : t.kind ps lots q = 2
    · have := (hleast hk2).least x hhi.lt hhi.there
      rw [← htop] at this
      omega
    · rw [← htopc hk2]
      omega
  · intro hk2 j hj
    have e := htopc hk2
    show (t.ns ps).getD j 0 ≤ (t.ns ps).getD c 0
    rw [← e]
    exact hall j hj
  · intro hk2 j hj
    have hk2' : t.kind ps lots q = 2 := hk2
    have := hall j hj
    show (t.ns ps).getD j 0 < q * t.d
    omega
  · intro hk2 j hj hg
    exact (hleast hk2).least j hj hg
  · intro j hj
    exact nums_gone hj
  · intro hk3
    have hk3' : t.kind ps lots q = 3 := hk3
    omega
  · intro hk2
    have hk2' : t.kind ps lots q = 2 := hk2
    omega

/-- the sum of the counts -/
def totTo (ps : List Pile) (u : List Int) (lf : List Bool) : Nat → Int
  | 0 => 0
  | k + 1 => totTo ps u lf k + if 0 ≤ bfirst (bal (ps.getD k default).1) lf then u.getD k 0 * (ps.getD k default).2 else 0
theorem addUp_bump (l : List Int) (c : Nat) (v : Int) : ∀ k, k ≤ l.length → addUp (bump l c v) k = addUp l k + if c < k then v else 0
  | 0, _ => by simp [addUp]
  | k + 1, hk => by
    have ih := addUp_bump l c v k (by omega)
    rw [addUp, addUp, ih, bump_at _ _ _ _ (by omega)]
    by_cases h1 : c < k
    · rw [if_pos h1, if_neg (by omega), if_pos (by omega)]; omega
    · by_cases h2 : k = c
      · rw [if_neg h1, if_pos h2, if_pos (by omega)]; omega
      · rw [if_neg h1, if_neg h2, if_neg (by omega)]; omega
theorem addUp_zero (n : Nat) : ∀ k, addUp (List.replicate n (0 : Int)) k = 0
  | 0 => rfl
  | k + 1 => by
    rw [addUp, addUp_zero n k]
    by_cases h : k < n
    · simp [List.getD, h]
    · simp [List.getD, h]
theorem sum_numTo {u : List Int} {lf : List Bool} (hf : fits ps lf.length = true) : ∀ k, k ≤ ps.length → addUp (numTo ps u lf k) lf.length = totTo ps u lf k
  | 0, _ => by rw [numTo, addUp_zero]; rfl
  | k + 1, hk => by
    have ih := sum_numTo (u := u) hf k (by omega)
    have hr := bfirst_range _ lf _ (fits_at hf k (by omega))
    rw [numTo, totTo]
    by_cases h : 0 ≤ bfirst (bal (ps.getD k default).1) lf
    · rw [if_pos h, if_pos h, addUp_bump _ _ _ _ (by rw [numTo_len]; exact Nat.le_refl _), ih, if_pos (by omega)]
    · rw [if_neg h, if_neg h, ih, Int.add_zero]
theorem sum_nums {u : List Int} {lf : List Bool} {m : Nat} (hm : lf.length = m) (hf : fits ps m = true) : addUp (nums ps u lf) m = totTo ps u lf ps.length := by
  subst hm
  exact sum_numTo hf _ (Nat.le_refl _)
theorem getD_set_true {lf : List Bool} {c j : Nat} (h : lf.getD j false = true) : (lf.set c true).getD j false = true := by
  have hj : j < lf.length := by
    rcases Nat.lt_or_ge j lf.length with h1 | h1
    · exact h1
    · simp [List.getD, h1] at h
  have e : lf.getD j false = lf[j] := by simp [List.getD, hj]
  rw [e] at h
  by_cases hc : c = j
  · subst hc; simp [List.getD, hj]
  · simp [List.getD, hc, hj, h]
theorem getD_set_other {lf : List Bool} {c j : Nat} (h : j ≠ c) : (lf.set c true).getD j false = lf.getD j false := by
  simp [List.getD, Ne.symm h]
theorem getD_set_same {lf : List Bool} {c : Nat} (h : c < lf.length) : (lf.set c true).getD c false = true := by
  simp [List.getD, h]
theorem bfirst_less {b : List Int} {lf : List Bool} {n : Int} (hb : bval b n = true) (c : Nat) (h : 0 ≤ bfirst b (lf.set c true)) : 0 ≤ bfirst b lf := by
  rcases firstOf_cases (fun c => !lf.getD c.toNat false) b with ⟨h1, h2⟩ | ⟨h1, _⟩
  · rcases bfirst_there b (lf.set c true) with h3 | ⟨h3, h4⟩
    · omega
    · have h5 := h2 _ h3
      have h6 : lf.getD (bfirst b (lf.set c true)).toNat false = true := by simpa using h5
      rw [getD_set_true h6] at h4
      cases h4
  · exact (((bval_iff b n).1 hb).2.1 _ h1).1
theorem tot_less {u : List Int} {lf : List Bool} {n : Int} (hf : fits ps n = true) (hu : ∀ k, 0 ≤ u.getD k 0) (c : Nat) : ∀ k, k ≤ ps.length → totTo ps u (lf.set c true) k ≤ totTo ps u lf k
  | 0, _ => Int.le_refl _
  | k + 1, hk => by
    have ih := tot_less (lf := lf) hf hu c k (by omega)
    have hb := fits_at hf k (by omega)
    have hm := fits_many_at hf k (by omega)
    have h0 : 0 ≤ u.getD k 0 * (ps.getD k default).2 := Int.mul_nonneg (hu k) (by omega)
    rw [totTo, totTo]
    by_cases h1 : 0 ≤ bfirst (bal (ps.getD k default).1) (lf.set c true)
    · have h2 := bfirst_less hb c h1
      rw [if_pos h1, if_pos h2]
      omega
    · rw [if_neg h1]
      split <;> omega
theorem tot_weigh {u : List Int} {lf : List Bool} {n : Int} (hf : fits ps n = true) (c : Nat) (hc : c < lf.length) (N r : Int) (K : Nat) : ∀ k, k ≤ ps.length → k ≤ K → totTo ps (weighTo ps u lf c (N - r) N K) lf k = totTo ps u lf k * N - r * (numTo ps u lf k).getD c 0
  | 0, _, _ => by
    have e : (numTo ps u lf 0).getD c 0 = 0 := by rw [numTo]; simp [List.getD, hc]
    rw [e]
    simp [totTo]
  | k + 1, hk, hK => by
    have ih := tot_weigh (u := u) hf c hc N r K k (by omega) (by omega)
    rw [totTo, totTo, numTo, ih, weighTo_at _ _ _ _ _ _ _ _ (by omega)]
    obtain ⟨X, hX⟩ : ∃ X, bfirst (bal (ps.getD k default).1) lf = X := ⟨_, rfl⟩
    rw [hX]
    by_cases h : 0 ≤ X
    · rw [if_pos h, if_pos h, if_pos h, bump_at _ _ _ _ (by rw [numTo_len]; exact hc)]
      obtain ⟨a, ha⟩ : ∃ a, u.getD k 0 = a := ⟨_, rfl⟩
      obtain ⟨v, hv⟩ : ∃ v, (ps.getD k default).2 = v := ⟨_, rfl⟩
      obtain ⟨T, hT⟩ : ∃ T, totTo ps u lf k = T := ⟨_, rfl⟩
      obtain ⟨Y, hY⟩ : ∃ Y, (numTo ps u lf k).getD c 0 = Y := ⟨_, rfl⟩
      rw [ha, hv, hT, hY]
      by_cases hxc : X = (c : Int)
      · rw [if_pos hxc, if_pos (by omega), Int.add_mul, Int.mul_sub, Int.sub_mul, Int.mul_add]
        have e1 : a * N * v = a * v * N := by ac_rfl
        have e2 : a * r * v = r * (a * v) := by ac_rfl
        rw [e1, e2]
        omega
      · rw [if_neg hxc, if_neg (by omega), Int.add_mul]
        have e1 : a * N * v = a * v * N := by ac_rfl
        rw [e1]
        omega
    · rw [if_neg h, if_neg h, if_neg h, Int.add_zero, Int.add_zero]

/-- the sum of the counts of a state -/
def Tst.sum (t : Tst) (ps : List Pile) : Int := totTo ps t.u t.lf ps.length
/-- what is left of the sum behind a step -/
def Tst.left (t : Tst) (ps : List Pile) (lots : List Int) (q : Int) : Int := t.sum ps - if t.kind ps lots q = 1 then q * t.d else 0
theorem next_sum {f : Nat} {t : Tst} (hl : lval lots = true) (hf : fits ps lots.length = true) (hs : psum ps ≤ 60) (hq : 1 ≤ q) (h : Tok ps lots (f + 1) t) (h1 : 1 ≤ t.s) :
    (t.next ps lots q).sum ps * t.d ≤ t.left ps lots q * (t.next ps lots q).d := by
  have hn := h.next hl (fits_val hf) hs hq h1
  have hd1 := h.d1
  have hless : (t.next ps lots q).sum ps ≤ totTo ps (t.next ps lots q).u t.lf ps.length := tot_less hf (fun k => (hn.u k).1) _ _ (Nat.le_refl _)
  by_cases hk : t.kind ps lots q = 1
  · obtain ⟨x, hx, htop, hhi⟩ := h.hi hl
    have hxl : x < t.lf.length := by rw [h.len]; exact hhi.lt
    have ed : (t.next ps lots q).d = t.d * t.top ps lots := if_pos hk
    have eu : (t.next ps lots q).u = weigh ps t.u t.lf (t.hi ps lots) (t.top ps lots - q * t.d) (t.top ps lots) := if_pos hk
    have hw := tot_weigh (u := t.u) hf x hxl (t.top ps lots) (q * t.d) ps.length ps.length (Nat.le_refl _) (Nat.le_refl _)
    rw [eu, hx] at hless
    unfold weigh at hless
    rw [hw] at hless
    have htop' : (numTo ps t.u t.lf ps.length).getD x 0 = t.top ps lots := htop.symm
    rw [htop', ← Int.sub_mul] at hless
    have el : t.left ps lots q = t.sum ps - q * t.d := by unfold Tst.left; rw [if_pos hk]
    rw [el, ed]
    have := Int.mul_le_mul_of_nonneg_right hless (show 0 ≤ t.d by omega)
    refine Int.le_trans this (Int.le_of_eq ?_)
    show (totTo ps t.u t.lf ps.length - q * t.d) * t.top ps lots * t.d = (totTo ps t.u t.lf ps.length - q * t.d) * (t.d * t.top ps lots)
    ac_rfl
  · have ed : (t.next ps lots q).d = t.d := if_neg hk
    have eu : (t.next ps lots q).u = t.u := if_neg hk
    have el : t.left ps lots q = t.sum ps := by unfold Tst.left; rw [if_neg hk, Int.sub_zero]
    rw [eu] at hless
    rw [el, ed]
    exact Int.mul_le_mul_of_nonneg_right hless (by omega)
theorem start_sum {seats : Int} (hf : fits ps lots.length = true) : (tstart ps lots seats).sum ps ≤ psum ps := by
  have hall : ∀ k, k ≤ ps.length → totTo ps (List.replicate ps.length 1) (List.replicate lots.length false) k ≤ sumTo ps k := by
    intro k
    induction k with
    | zero => intro _; exact Int.le_refl _
    | succ k ih =>
      intro hk
      have ih := ih (by omega)
      have hm := fits_many_at hf k (by omega)
      have e : (List.replicate ps.length (1 : Int)).getD k 0 = 1 := by simp [List.getD, show k < ps.length by omega]
      rw [totTo, sumTo, e]
      split <;> omega
  exact hall _ (Nat.le_refl _)

/-- who gets seats, in order -/
def twin (ss : List Stp) : List Int := (ss.filter fun s => decide (s.kind ≠ 2)).map (·.who)
theorem twin_nil : twin [] = [] := rfl
theorem twin_cons (s : Stp) (ss : List Stp) : twin (s :: ss) = if s.kind = 2 then twin ss else s.who :: twin ss := by
  unfold twin
  by_cases h : s.kind = 2
  · simp [h]
  · simp [h]
/-- who is there when all who are there get seats, gets one -/
theorem all_seated (hl : lval lots = true) (hf : fits ps lots.length = true) (hs : psum ps ≤ 60) (hq : 1 ≤ q) (x : Nat) (hx : x < lots.length) : ∀ (f : Nat) (t : Tst), Tok ps lots f t → (f : Int) ≤ t.s → t.lf.getD x false = false → (x : Int) ∈ twin (tsteps ps lots q f t)
  | 0, t, h, _, hxl => by
    have := thereTo_none t.lf _ (show thereTo t.lf t.lf.length = 0 from h.there) x (by rw [h.len]; exact hx)
    rw [hxl] at this
    cases this
  | f + 1, t, h, hfs, hxl => by
    have h1 : 1 ≤ t.s := by omega
    obtain ⟨c, hc, hclt, hcl, _, _⟩ := h.who (q := q) hl
    have hk2 : t.kind ps lots q ≠ 2 := fun e => by
      have := t.kind_cases ps lots q
      have ht := h.there
      omega
    rw [tsteps_go ps lots q h1 f, twin_cons, if_neg (show (t.stp ps lots q).kind ≠ 2 from hk2)]
    by_cases hxc : x = c
    · subst hxc
      rw [show (t.stp ps lots q).who = (x : Int) from hc]
      exact List.mem_cons_self ..
    · refine List.mem_cons_of_mem _ (all_seated hl hf hs hq x hx f _ (h.next hl (fits_val hf) hs hq h1) ?_ ?_)
      · show (f : Int) ≤ if t.kind ps lots q = 2 then t.s else t.s - 1
        rw [if_neg hk2]; omega
      · show (t.lf.set (t.who ps lots q).toNat true).getD x false = false
        rw [hc, Int.toNat_natCast, getD_set_other hxc]
        exact hxl

/-- a pile's ballots have x and y ahead -/
def solid (b : List Int) (x y : Int) : Bool := decide (1 < b.length) && (decide (b.getD 0 0 = x ∨ b.getD 0 0 = y) && decide (b.getD 1 0 = x ∨ b.getD 1 0 = y))
def solidTo (ps : List Pile) (x y : Int) : Nat → Int
  | 0 => 0
  | k + 1 => if solid (bal (ps.getD k default).1) x y then solidTo ps x y k + (ps.getD k default).2 else solidTo ps x y k
theorem solid_first {b : List Int} {lf : List Bool} {n : Int} {x y : Nat} (hb : bval b n = true) (hxy : x ≠ y) (hsol : solid b x y = true) (ht : lf.getD x false = false ∨ lf.getD y false = false) :
    (bfirst b lf = x ∧ lf.getD x false = false) ∨ (bfirst b lf = y ∧ lf.getD y false = false) := by
  simp only [solid, Bool.and_eq_true, decide_eq_true_eq] at hsol
  obtain ⟨hlen, h0, h1⟩ := hsol
  have hne : b.getD 0 0 ≠ b.getD 1 0 := by
    have := (bval_fit b n hb 1 (by omega)).2.2
    intro e
    apply this
    rw [← e]
    have e0 : b.getD 0 0 = b[0] := by simp [List.getD, show 0 < b.length by omega]
    rw [e0]
    exact List.mem_take_iff_getElem.2 ⟨0, by omega, rfl⟩
  obtain ⟨a, ha⟩ : ∃ a, b.getD 0 0 = a := ⟨_, rfl⟩
  obtain ⟨c, hc⟩ : ∃ c, b.getD 1 0 = c := ⟨_, rfl⟩
  rw [ha] at h0 hne
  rw [hc] at h1 hne
  have hat : ∀ z : Nat, a = (z : Int) → lf.getD z false = false → bfirst b lf = z ∧ lf.getD z false = false := fun z hz hlf => by
    refine ⟨?_, hlf⟩
    rw [bfirst_found b lf 0 (by omega) (by rw [ha, hz, Int.toNat_natCast]; exact hlf) (fun j hj => absurd hj (by omega)), ha, hz]
  have hct : ∀ z z' : Nat, a = (z' : Int) → lf.getD z' false = true → c = (z : Int) → lf.getD z false = false → bfirst b lf = z ∧ lf.getD z false = false := fun z z' hz' hlf' hz hlf => by
    refine ⟨?_, hlf⟩
    rw [bfirst_found b lf 1 (by omega) (by rw [hc, hz, Int.toNat_natCast]; exact hlf) (fun j hj => by
      have : j = 0 := by omega
      subst this
      rw [ha, hz', Int.toNat_natCast]; exact hlf'), hc, hz]
  rcases h0 with h0 | h0
  · have hcy : c = (y : Int) := by omega
    by_cases hx : lf.getD x false = false
    · exact .inl (hat x h0 hx)
    · have hx' : lf.getD x false = true := by simpa using hx
      have hy : lf.getD y false = false := by
        rcases ht with h | h
        · exact absurd h hx
        · exact h
      exact .inr (hct y x h0 hx' hcy hy)
  · have hcx : c = (x : Int) := by omega
    by_cases hy : lf.getD y false = false
    · exact .inr (hat y h0 hy)
    · have hy' : lf.getD y false = true := by simpa using hy
      have hx : lf.getD x false = false := by
        rcases ht with h | h
        · exact h
        · exact absurd h hy
      exact .inl (hct x y h0 hy' hcx hx)
theorem solid_tot {u : List Int} {lf : List Bool} {n d : Int} {x y : Nat} (hf : fits ps n = true) (hxy : x ≠ y) (hu0 : ∀ k, 0 ≤ u.getD k 0) (hu : ∀ k, k < ps.length → solid (bal (ps.getD k default).1) x y = true → u.getD k 0 = d) (ht : lf.getD x false = false ∨ lf.getD y false = false) : ∀ k, k ≤ ps.length → d * solidTo ps x y k ≤ totTo ps u lf k
  | 0, _ => by simp [solidTo, totTo]
  | k + 1, hk => by
    have ih := solid_tot (u := u) (lf := lf) hf hxy hu0 hu ht k (by omega)
    have hb := fits_at hf k (by omega)
    have hm := fits_many_at hf k (by omega)
    have h0 : 0 ≤ u.getD k 0 * (ps.getD k default).2 := Int.mul_nonneg (hu0 k) (by omega)
    rw [solidTo, totTo]
    by_cases hsol : solid (bal (ps.getD k default).1) x y = true
    · have hfi : 0 ≤ bfirst (bal (ps.getD k default).1) lf := by
        rcases solid_first (lf := lf) hb hxy hsol ht with ⟨e, _⟩ | ⟨e, _⟩ <;> omega
      rw [if_pos hsol, if_pos hfi, hu k (by omega) hsol, Int.mul_add]
      omega
    · rw [if_neg hsol]
      split <;> omega
theorem solid_one {u : List Int} {lf : List Bool} {n d : Int} {x y z : Nat} (hf : fits ps n = true) (hxy : x ≠ y) (hz : z < lf.length) (hu0 : ∀ k, 0 ≤ u.getD k 0) (hu : ∀ k, k < ps.length → solid (bal (ps.getD k default).1) x y = true → u.getD k 0 = d) (ht : lf.getD x false = false ∨ lf.getD y false = false) (hone : ∀ c : Nat, c = x ∨ c = y → lf.getD c false = false → c = z) : ∀ k, k ≤ ps.length → d * solidTo ps x y k ≤ (numTo ps u lf k).getD z 0
  | 0, _ => by
    have e : (numTo ps u lf 0).getD z 0 = 0 := by rw [numTo]; simp [List.getD, hz]
    rw [e]; simp [solidTo]
  | k + 1, hk => by
    have ih := solid_one (u := u) (lf := lf) hf hxy hz hu0 hu ht hone k (by omega)
    have hb := fits_at hf k (by omega)
    have hm := fits_many_at hf k (by omega)
    have h0 : 0 ≤ u.getD k 0 * (ps.getD k default).2 := Int.mul_nonneg (hu0 k) (by omega)
    rw [solidTo, numTo]
    by_cases hsol : solid (bal (ps.getD k default).1) x y = true
    · have hfi : bfirst (bal (ps.getD k default).1) lf = z := by
        rcases solid_first (lf := lf) hb hxy hsol ht with ⟨e, e2⟩ | ⟨e, e2⟩
        · rw [e, hone x (.inl rfl) e2]
        · rw [e, hone y (.inr rfl) e2]
      rw [if_pos hsol, if_pos (by omega), bump_at _ _ _ _ (by rw [numTo_len]; exact hz), hfi, if_pos (by omega), Int.mul_add, hu k (by omega) hsol]
      omega
    · rw [if_neg hsol]
      split
      · rw [bump_at _ _ _ _ (by rw [numTo_len]; exact hz)]
        split <;> omega
      · exact ih
theorem solid_seat (hl : lval lots = true) (hf : fits ps lots.length = true) (hs : psum ps ≤ 60) (hq : 1 ≤ q) (x y : Nat) (hx : x < lots.length) (hy : y < lots.length) (hxy : x ≠ y) (hsol : q ≤ solidTo ps x y ps.length) (R : Int) (hR : R < q) : ∀ (f : Nat) (t : Tst), Tok ps lots f t →
    (∀ k, k < ps.length → solid (bal (ps.getD k default).1) x y = true → t.u.getD k 0 = t.d) → (t.lf.getD x false = false ∨ t.lf.getD y false = false) → t.sum ps ≤ t.d * (R + t.s * q) →
    (x : Int) ∈ twin (tsteps ps lots q f t) ∨ (y : Int) ∈ twin (tsteps ps lots q f t) := by
  have hend : ∀ (f : Nat) (t : Tst), Tok ps lots f t → (∀ k, k < ps.length → solid (bal (ps.getD k default).1) x y = true → t.u.getD k 0 = t.d) → (t.lf.getD x false = false ∨ t.lf.getD y false = false) → t.sum ps ≤ t.d * (R + t.s * q) → t.s ≤ 0 → False := by
    intro f t h hu ht hsum h1
    have h0 : t.s = 0 := by have := h.s0; omega
    have hd1 := h.d1
    have h2 := solid_tot (u := t.u) (lf := t.lf) hf hxy (fun k => (h.u k).1) hu ht ps.length (Nat.le_refl _)
    have h3 : t.d * q ≤ t.d * solidTo ps x y ps.length := Int.mul_le_mul_of_nonneg_left hsol (by omega)
    rw [h0, Int.zero_mul, Int.add_zero] at hsum
    have h4 : t.d * q ≤ t.d * R := Int.le_trans h3 (Int.le_trans h2 hsum)
    have := Int.le_of_mul_le_mul_left h4 (by omega)
    omega
  intro f
  induction f with
  | zero =>
    intro t h hu ht hsum
    have := h.sf
    exact absurd (hend 0 t h hu ht hsum (by omega)) id
  | succ f ih =>
    intro t h hu ht hsum
    by_cases h1 : 1 ≤ t.s
    · obtain ⟨c, hw⟩ := step_law hl (fits_val hf) hs hq h h1
      obtain ⟨hc, hclt, hcl, _, _, _, _, _, _, _, hfew, _, _, hrest, _⟩ := hw
      have hc' : t.who ps lots q = (c : Int) := hc
      have hnext := h.next hl (fits_val hf) hs hq h1
      have hns := next_sum hl hf hs hq h h1
      have hd1 := h.d1
      rw [tsteps_go ps lots q h1 f, twin_cons]
      have hlf : (t.next ps lots q).lf = t.lf.set c true := by
        show t.lf.set (t.who ps lots q).toNat true = _
        rw [hc', Int.toNat_natCast]
      have hkc : (t.stp ps lots q).kind = t.kind ps lots q := rfl
      have hwc : (t.stp ps lots q).who = (c : Int) := hc
      rw [hkc, hwc]
      rcases t.kind_cases ps lots q with ⟨hk, _⟩ | ⟨hk, _, hle⟩ | ⟨hk, _, _⟩
      · rw [if_neg (by omega)]
        by_cases hcx : c = x
        · subst hcx; exact .inl (List.mem_cons_self ..)
        by_cases hcy : c = y
        · subst hcy; exact .inr (List.mem_cons_self ..)
        have ed : (t.next ps lots q).d = t.d * t.top ps lots := if_pos hk
        have eu : (t.next ps lots q).u = weigh ps t.u t.lf (t.hi ps lots) (t.top ps lots - q * t.d) (t.top ps lots) := if_pos hk
        have es : (t.next ps lots q).s = t.s - 1 := if_neg (by omega)
        have ehi : t.hi ps lots = (c : Int) := by
          have : t.who ps lots q = t.hi ps lots := if_neg (by omega)
          rw [← this]; exact hc'
        have := ih (t.next ps lots q) hnext ?_ ?_ ?_
        · rcases this with h2 | h2
          · exact .inl (List.mem_cons_of_mem _ h2)
          · exact .inr (List.mem_cons_of_mem _ h2)
        · intro k hkl hsl
          have hb := fits_at hf k hkl
          unfold weigh at eu
          rw [eu, ed, weighTo_at _ _ _ _ _ _ _ _ hkl, if_neg, hu k hkl hsl]
          rw [ehi]
          rcases solid_first (lf := t.lf) hb hxy hsl ht with ⟨e, _⟩ | ⟨e, _⟩ <;> omega
        · rw [hlf, getD_set_other (Ne.symm hcx), getD_set_other (Ne.symm hcy)]
          exact ht
        · have el : t.left ps lots q = t.sum ps - q * t.d := by unfold Tst.left; rw [if_pos hk]
          have hd2 := hnext.d1
          rw [el] at hns
          have e1 : t.d * (R + t.s * q) = t.d * (R + (t.s - 1) * q) + q * t.d := by
            rw [Int.sub_mul, Int.one_mul, Int.mul_add, Int.mul_add, Int.mul_sub, Int.mul_comm q t.d]; omega
          have h5 : t.sum ps - q * t.d ≤ t.d * (R + (t.s - 1) * q) := by omega
          have h6 := Int.mul_le_mul_of_nonneg_right h5 (show 0 ≤ (t.next ps lots q).d by omega)
          have h7 := Int.le_trans hns h6
          rw [es]
          refine Int.le_of_mul_le_mul_right (a := t.d) (Int.le_trans h7 (Int.le_of_eq ?_)) (by omega)
          ac_rfl
      · rw [if_neg (by omega)]
        have hth := h.there
        rcases ht with ht | ht
        · refine .inl ?_
          have := all_seated hl hf hs hq x hx (f + 1) t h (by omega) ht
          rw [tsteps_go ps lots q h1 f, twin_cons, hkc, hwc, if_neg (by omega)] at this
          exact this
        · refine .inr ?_
          have := all_seated hl hf hs hq y hy (f + 1) t h (by omega) ht
          rw [tsteps_go ps lots q h1 f, twin_cons, hkc, hwc, if_neg (by omega)] at this
          exact this
      · rw [if_pos hk]
        have ed : (t.next ps lots q).d = t.d := if_neg (by omega)
        have eu : (t.next ps lots q).u = t.u := if_neg (by omega)
        have es : (t.next ps lots q).s = t.s := if_pos hk
        have hfc := hfew hk c hclt
        have hone : ∀ z, (∀ c' : Nat, c' = x ∨ c' = y → t.lf.getD c' false = false → c' = z) → z = c → False := by
          intro z hz hzc
          have h2 := solid_one (u := t.u) (lf := t.lf) (z := z) hf hxy (by rw [h.len, hzc]; exact hclt) (fun k => (h.u k).1) hu ht hz ps.length (Nat.le_refl _)
          have h3 : t.d * q ≤ t.d * solidTo ps x y ps.length := Int.mul_le_mul_of_nonneg_left hsol (by omega)
          have h4 : t.d * q ≤ (t.ns ps).getD c 0 := by rw [← hzc]; exact Int.le_trans h3 h2
          have h5 : (t.ns ps).getD c 0 < q * t.d := hfc
          rw [Int.mul_comm] at h4
          omega
        refine ih (t.next ps lots q) hnext ?_ ?_ ?_
        · rw [eu, ed]; exact hu
        · rw [hlf]
          by_cases hcx : c = x
          · subst hcx
            refine .inr ?_
            rw [getD_set_other (Ne.symm hxy)]
            by_cases hyf : t.lf.getD y false = false
            · exact hyf
            · exact absurd (hone c (fun c' hc' hf' => by
                rcases hc' with rfl | rfl
                · rfl
                · exact absurd hf' hyf) rfl) id
          by_cases hcy : c = y
          · subst hcy
            refine .inl ?_
            rw [getD_set_other hxy]
            by_cases hxf : t.lf.getD x false = false
            · exact hxf
            · exact absurd (hone c (fun c' hc' hf' => by
                rcases hc' with rfl | rfl
                · exact absurd hf' hxf
                · rfl) rfl) id
          rw [getD_set_other (Ne.symm hcx), getD_set_other (Ne.symm hcy)]
          exact ht
        · have el : t.left ps lots q = t.sum ps := by unfold Tst.left; rw [if_neg (by omega), Int.sub_zero]
          rw [el, ed] at hns
          have := Int.le_of_mul_le_mul_right hns (by omega)
          rw [ed, es]
          omega
    · exact absurd (hend _ t h hu ht hsum (by omega)) id
theorem tquota_more {seats : Int} (h1 : 1 ≤ seats) : psum ps - seats * tquota ps seats < tquota ps seats := by
  have := Int.lt_ediv_add_one_mul_self (psum ps) (show 0 < seats + 1 by omega)
  unfold tquota
  obtain ⟨X, hX⟩ : ∃ X, psum ps / (seats + 1) = X := ⟨_, rfl⟩
  rw [hX] at this ⊢
  rw [Int.mul_comm, Int.add_mul, Int.one_mul] at this
  omega
/-- a solid group gets a seat -/
theorem transfer_solid {seats : Int} (h : tval ps lots seats = true) (x y : Nat) (hx : x < lots.length) (hy : y < lots.length) (hxy : x ≠ y) (hsol : tquota ps seats ≤ solidTo ps x y ps.length) : (x : Int) ∈ twin (transfer ps lots seats) ∨ (y : Int) ∈ twin (transfer ps lots seats) := by
  obtain ⟨hl, hf, ⟨h1, h2, h3⟩, hs⟩ := (tval_iff ps lots seats).1 h
  have hq := (tquota_bd (fits_val hf) hs h1).1
  refine solid_seat hl hf hs hq x y hx hy hxy hsol (psum ps - seats * tquota ps seats) (tquota_more h1) _ _ (tstart_ok h1 h2 h3) (fun k hk _ => ?_) (.inl ?_) ?_
  · show (List.replicate ps.length (1 : Int)).getD k 0 = 1
    simp [List.getD, hk]
  · show (List.replicate lots.length false).getD x false = false
    simp [List.getD, hx]
  · have := start_sum (seats := seats) hf
    show (tstart ps lots seats).sum ps ≤ 1 * (psum ps - seats * tquota ps seats + seats * tquota ps seats)
    omega

/-- the state ahead of step k -/
def Tk (ps : List Pile) (lots : List Int) (seats : Int) (k : Nat) : Tst := tat ps lots (tquota ps seats) k (tstart ps lots seats)
/-- what holds of step k and of the states ahead of it and behind it -/
structure RunAt (ps : List Pile) (lots : List Int) (seats : Int) (k : Nat) (p : Nat) : Prop where
  law : StepLaw lots (tquota ps seats) (Tk ps lots seats k) ((transfer ps lots seats).getD k default) p
  lf : (Tk ps lots seats (k + 1)).lf = (Tk ps lots seats k).lf.set p true
  len : (Tk ps lots seats k).lf.length = lots.length
  s : (Tk ps lots seats (k + 1)).s = if ((transfer ps lots seats).getD k default).kind = 2 then (Tk ps lots seats k).s else (Tk ps lots seats k).s - 1
  s1 : 1 ≤ (Tk ps lots seats k).s
  there : Bp.there (Tk ps lots seats k).lf = (lots.length : Int) - k
  km : k < lots.length
  sum : addUp ((transfer ps lots seats).getD k default).ns lots.length = (Tk ps lots seats k).sum ps
  d : (Tk ps lots seats k).d = ((transfer ps lots seats).getD k default).d
  next : (Tk ps lots seats (k + 1)).sum ps * ((transfer ps lots seats).getD k default).d ≤ ((Tk ps lots seats k).sum ps - if ((transfer ps lots seats).getD k default).kind = 1 then tquota ps seats * ((transfer ps lots seats).getD k default).d else 0) * (Tk ps lots seats (k + 1)).d
theorem run_at {seats : Int} (h : tval ps lots seats = true) {k : Nat} (hk : k < (transfer ps lots seats).length) : ∃ p, RunAt ps lots seats k p := by
  obtain ⟨hl, hf, ⟨h1, h2, h3⟩, hs⟩ := (tval_iff ps lots seats).1 h
  have hq := (tquota_bd (fits_val hf) hs h1).1
  obtain ⟨_, _, _, hall⟩ := tsteps_run hl (fits_val hf) hs hq _ _ (tstart_ok h1 h2 h3)
  obtain ⟨e, hs1, g, hg, htok⟩ := hall k hk
  have e' : (transfer ps lots seats).getD k default = (Tk ps lots seats k).stp ps lots (tquota ps seats) := e
  obtain ⟨p, hp⟩ := step_law hl (fits_val hf) hs hq htok hs1
  have hnx : Tk ps lots seats (k + 1) = (Tk ps lots seats k).next ps lots (tquota ps seats) := tat_succ _ _ _ _ _
  have hw : (Tk ps lots seats k).who ps lots (tquota ps seats) = (p : Int) := hp.who
  refine ⟨p, ?_, ?_, htok.len, ?_, hs1, ?_, by omega, ?_, ?_, ?_⟩
  · rw [e']; exact hp
  · rw [hnx]
    show (Tk ps lots seats k).lf.set _ true = _
    rw [hw, Int.toNat_natCast]
  · rw [e', hnx]; rfl
  · have := htok.there
    show Bp.there (tat ps lots (tquota ps seats) k (tstart ps lots seats)).lf = _
    omega
  · rw [e']
    exact sum_nums htok.len hf
  · rw [e']; rfl
  · rw [e', hnx]
    exact next_sum hl hf hs hq htok hs1
theorem run_end {seats : Int} (h : tval ps lots seats = true) : (transfer ps lots seats).length ≤ lots.length ∧ (Tk ps lots seats (transfer ps lots seats).length).s = 0 := by
  obtain ⟨hl, hf, ⟨h1, h2, h3⟩, hs⟩ := (tval_iff ps lots seats).1 h
  have hq := (tquota_bd (fits_val hf) hs h1).1
  obtain ⟨i1, i2, _⟩ := tsteps_run hl (fits_val hf) hs hq _ _ (tstart_ok h1 h2 h3)
  exact ⟨i1, i2⟩
theorem run_start (ps : List Pile) (lots : List Int) (seats : Int) : Tk ps lots seats 0 = tstart ps lots seats := rfl
theorem run_pos {seats : Int} (h : tval ps lots seats = true) : 0 < (transfer ps lots seats).length := by
  obtain ⟨hl, hf, ⟨h1, h2, h3⟩, hs⟩ := (tval_iff ps lots seats).1 h
  have he := (run_end h).2
  rcases Nat.eq_zero_or_pos (transfer ps lots seats).length with h0 | h0
  · rw [h0, run_start] at he
    have : seats = 0 := he
    omega
  · exact h0

/-- who has been before step k -/
def whos (ss : List Stp) (k : Nat) : List Int := (ss.take k).map (·.who)
theorem take_more (ss : List Stp) {k : Nat} (hk : k < ss.length) : ss.take (k + 1) = ss.take k ++ [ss.getD k default] := by
  rw [List.take_add_one]
  simp [List.getD, hk]
theorem whos_zero (ss : List Stp) : whos ss 0 = [] := by simp [whos]
theorem whos_succ (ss : List Stp) {k : Nat} (hk : k < ss.length) : whos ss (k + 1) = whos ss k ++ [(ss.getD k default).who] := by
  unfold whos
  rw [take_more ss hk, List.map_append]
  rfl
theorem whos_len (ss : List Stp) {k : Nat} (hk : k ≤ ss.length) : (whos ss k).length = k := by
  simp [whos]; omega
theorem whos_lf {seats : Int} (h : tval ps lots seats = true) : ∀ k, k ≤ (transfer ps lots seats).length → ∀ j : Nat, j < lots.length → (Tk ps lots seats k).lf.getD j false = has (whos (transfer ps lots seats) k) j
  | 0, _, j, hj => by
    rw [whos_zero, run_start]
    show (List.replicate lots.length false).getD j false = _
    simp [List.getD, hj, has]
  | k + 1, hk, j, hj => by
    obtain ⟨p, hp⟩ := run_at h (k := k) (by omega)
    have ih := whos_lf h k (by omega) j hj
    rw [hp.lf, whos_succ _ (by omega)]
    unfold has at ih ⊢
    rw [hp.law.who]
    by_cases hjp : j = p
    · subst hjp
      rw [getD_set_same (by rw [hp.len]; exact hj)]
      simp
    · rw [getD_set_other hjp, ih, decide_eq_decide]
      simp only [List.mem_append, List.mem_singleton]
      constructor
      · exact fun h => .inl h
      · rintro (h | h)
        · exact h
        · omega
/-- how many seats have been given before step k -/
def given (ss : List Stp) (k : Nat) : Nat := (twin (ss.take k)).length
theorem given_zero (ss : List Stp) : given ss 0 = 0 := by simp [given, twin]
theorem twin_append (a b : List Stp) : twin (a ++ b) = twin a ++ twin b := by simp [twin]
theorem given_succ (ss : List Stp) {k : Nat} (hk : k < ss.length) : given ss (k + 1) = if (ss.getD k default).kind = 2 then given ss k else given ss k + 1 := by
  unfold given
  rw [take_more ss hk, twin_append, twin_cons, twin_nil]
  split <;> simp
theorem given_all (ss : List Stp) : given ss ss.length = (twin ss).length := by simp [given]
theorem given_at (ss : List Stp) {k : Nat} (hk : k < ss.length) (h2 : (ss.getD k default).kind ≠ 2) : given ss k < (twin ss).length ∧ (twin ss).getD (given ss k) 0 = (ss.getD k default).who := by
  have e : ss = ss.take (k + 1) ++ ss.drop (k + 1) := (List.take_append_drop _ _).symm
  have e1 : twin ss = (twin (ss.take k) ++ [(ss.getD k default).who]) ++ twin (ss.drop (k + 1)) := by
    calc twin ss = twin (ss.take (k + 1) ++ ss.drop (k + 1)) := congrArg twin e
      _ = _ := by rw [twin_append, take_more ss hk, twin_append, twin_cons, twin_nil, if_neg h2]
  unfold given
  rw [e1]
  refine ⟨by simp, ?_⟩
  simp [List.getD]
theorem given_s {seats : Int} (h : tval ps lots seats = true) : ∀ k, k ≤ (transfer ps lots seats).length → (Tk ps lots seats k).s = seats - given (transfer ps lots seats) k
  | 0, _ => by rw [given_zero, run_start]; show seats = _; simp
  | k + 1, hk => by
    obtain ⟨p, hp⟩ := run_at h (k := k) (by omega)
    have ih := given_s h k (by omega)
    rw [hp.s, given_succ _ (by omega), ih]
    split
    · rfl
    · omega
theorem twin_len {seats : Int} (h : tval ps lots seats = true) : ((twin (transfer ps lots seats)).length : Int) = seats := by
  have h1 := (run_end h).2
  have h2 := given_s h _ (Nat.le_refl _)
  rw [given_all] at h2
  omega
theorem whos_new {seats : Int} (h : tval ps lots seats = true) {k : Nat} (hk : k < (transfer ps lots seats).length) : has (whos (transfer ps lots seats) k) ((transfer ps lots seats).getD k default).who = false := by
  obtain ⟨p, hp⟩ := run_at h hk
  rw [hp.law.who, ← whos_lf h k (by omega) p hp.law.lt]
  exact hp.law.free

/-- the sum behind the first k steps, as a fraction -/
def sumsTo (ps : List Pile) (q : Int) (ss : List Stp) : Nat → Fr
  | 0 => (psum ps, 1)
  | k + 1 => fr (ss.getD k default).d (addUp (ss.getD k default).ns (ss.getD k default).ns.length - if (ss.getD k default).kind = 1 then q * (ss.getD k default).d else 0)
theorem addUp_bd5 {l : List Int} {d : Int} (h : Bd l (d * 60)) (hd : 1 ≤ d) (hd' : d ≤ 60) {k : Nat} (hk : k ≤ 5) : 0 ≤ addUp l k ∧ addUp l k ≤ 18000 := by
  obtain ⟨h1, h2⟩ := addUp_bd h k
  have h3 : d * 60 * (k : Int) ≤ 3600 * 5 := Int.mul_le_mul (by omega) (by omega) (by omega) (by omega)
  omega
/-- a step's sum is never more than what was left -/
theorem sums_less {seats : Int} (h : tval ps lots seats = true) {k : Nat} (hk : k < (transfer ps lots seats).length) :
    Fp.less (sumsTo ps (tquota ps seats) (transfer ps lots seats) k).1 (sumsTo ps (tquota ps seats) (transfer ps lots seats) k).2 (fr ((transfer ps lots seats).getD k default).d (addUp ((transfer ps lots seats).getD k default).ns lots.length)).1 (fr ((transfer ps lots seats).getD k default).d (addUp ((transfer ps lots seats).getD k default).ns lots.length)).2 = false := by
  obtain ⟨hl, hf, ⟨h1, h2, h3⟩, hs⟩ := (tval_iff ps lots seats).1 h
  obtain ⟨q1, q2⟩ := tquota_bd (fits_val hf) hs h1
  have hm := lval_n hl
  obtain ⟨p, hp⟩ := run_at h hk
  have hd1 := hp.law.d1
  have hd2 := hp.law.d60
  have ha := addUp_bd5 hp.law.bd hd1 hd2 hm.2
  have hv := fr_vld (d := ((transfer ps lots seats).getD k default).d) (n := addUp ((transfer ps lots seats).getD k default).ns lots.length) hd1 (by omega) (by omega) (by omega)
  match k, hk, hp, hd1, hd2, ha, hv with
  | 0, hk, hp, hd1, hd2, ha, hv =>
    have hps := psum_bd (fits_val hf)
    have hv0 := fr_vld (d := 1) (n := psum ps) (by omega) (by omega) (by omega) (by omega)
    have hl := fr_less (d := 1) (a := psum ps) (by omega) hd1 hv0 hv
    rw [fr_one] at hl
    show Fp.less (psum ps) 1 _ _ = false
    rw [hl, decide_eq_false_iff_not, hp.sum]
    have h4 := start_sum (seats := seats) hf
    rw [run_start, ← hp.d, run_start]
    show ¬ psum ps * 1 < (tstart ps lots seats).sum ps * 1
    omega
  | k + 1, hk, hp, hd1, hd2, ha, hv =>
    obtain ⟨p', hp'⟩ := run_at h (k := k) (by omega)
    have he1 := hp'.law.d1
    have he2 := hp'.law.d60
    have hb := addUp_bd5 hp'.law.bd he1 he2 hm.2
    have hn := hp'.next
    rw [← hp'.sum, ← hp.sum, hp.d] at hn
    have hqd : tquota ps seats * ((transfer ps lots seats).getD k default).d ≤ 61 * 60 := Int.mul_le_mul q2 he2 (by omega) (by omega)
    have hqd0 : 0 ≤ tquota ps seats * ((transfer ps lots seats).getD k default).d := Int.mul_nonneg (by omega) (by omega)
    rw [sumsTo, hp'.law.len]
    obtain ⟨Z, hZ⟩ : ∃ Z, (addUp ((transfer ps lots seats).getD k default).ns lots.length - if ((transfer ps lots seats).getD k default).kind = 1 then tquota ps seats * ((transfer ps lots seats).getD k default).d else 0) = Z := ⟨_, rfl⟩
    have hZb : -3660 ≤ Z ∧ Z ≤ 18000 := by
      rw [← hZ]
      split <;> omega
    rw [hZ] at hn ⊢
    have hv0 := fr_vld (d := ((transfer ps lots seats).getD k default).d) (n := Z) he1 (by omega) (by omega) (by omega)
    rw [fr_less he1 hd1 hv0 hv, decide_eq_false_iff_not]
    omega
end
end Go.Proofs.Ytiglkajafdecgaa.Bp
