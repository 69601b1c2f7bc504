/-
  The small functions of the statements on rounds: comparisons, marks.
-/
import Derived.Test.YtleceoplfboefaaRoundsMem
import Derived.Test.YtleceoplfboefaaLawCopy
import Derived.Test.YtleceoplfboefaaPlural
namespace Go.Proofs.Ytleceoplfboefaa
set_option linter.unusedVariables false
open Go.RowKit

/-- which mark stands ahead of round i -/
def rAt (k : Int) (rs : List Bp.Rnd) : Nat → Int
  | 0 => k
  | i + 1 => rAt k rs i + (rs.getD i default).1.length + 1
/-- rounds of which the first i are marked -/
def rMarked (k : Int) (rs : List Bp.Rnd) : Nat → List Bp.Rnd
  | 0 => rs
  | i + 1 => (rMarked k rs i).set i (marks (rAt k rs i) (rs.getD i default).1.length, rAt k rs i + (rs.getD i default).1.length)
theorem rMarked_len (k : Int) (rs : List Bp.Rnd) : ∀ i, (rMarked k rs i).length = rs.length
  | 0 => rfl
  | i + 1 => by rw [rMarked, List.length_set, rMarked_len k rs i]
theorem rMarked_later (k : Int) (rs : List Bp.Rnd) : ∀ i j, i ≤ j → (rMarked k rs i).getD j default = rs.getD j default
  | 0, _, _ => rfl
  | i + 1, j, h => by
    rw [rMarked]
    have : ∀ x, ((rMarked k rs i).set i x).getD j default = (rMarked k rs i).getD j default := fun x => by simp [List.getD, List.getElem?_set_ne (show i ≠ j by omega)]
    rw [this, rMarked_later k rs i j (by omega)]
theorem rMarked_at (k : Int) (rs : List Bp.Rnd) (j : Nat) (hj : j < rs.length) : ∀ i, j < i → (rMarked k rs i).getD j default = (marks (rAt k rs j) (rs.getD j default).1.length, rAt k rs j + (rs.getD j default).1.length)
  | 0, h => absurd h (by omega)
  | i + 1, h => by
    rw [rMarked]
    by_cases e : i = j
    · subst e
      simp [List.getD, rMarked_len, hj]
    · have : ∀ x, ((rMarked k rs i).set i x).getD j default = (rMarked k rs i).getD j default := fun x => by simp [List.getD, List.getElem?_set_ne e]
      rw [this, rMarked_at k rs j hj i (by omega)]
theorem rAt_bd (k : Int) (rs : List Bp.Rnd) (h : ∀ i, (rs.getD i default).1.length ≤ 1024) : ∀ i, k ≤ rAt k rs i ∧ rAt k rs i ≤ k + 1025 * i
  | 0 => ⟨Int.le_refl _, by rw [rAt]; omega⟩
  | i + 1 => by
    have := rAt_bd k rs h i
    have := h i
    rw [rAt]
    omega
theorem rown_up {w : World} {base g n c : Nat} {zs : List Int} (h : Own w base (.slice (some ⟨g, 0, none⟩) n c) n zs) : Own w g (.slice (some ⟨g, 0, none⟩) n c) n zs := by
  refine ⟨h.1, ?_⟩
  rcases h.2 with ⟨hv, _⟩ | ⟨g', cap', cur', hv', hb', hrest⟩
  · cases hv
  · injection hv' with h1 h2 h3
    injection h1 with h1
    injection h1 with h1
    subst h1; subst h3
    exact .inr ⟨g, _, cur', rfl, Nat.le_refl _, hrest⟩
theorem OwnRd.within {lo hi base : Nat} {w w' : World} {v : Value} {n : Nat} {rs : List Bp.Rnd} (h : OwnRd w base [] v n rs) (hi' : hi ≤ base) (hw : Within lo hi w w') : OwnRd w' base [] v n rs := by
  obtain ⟨vs, h1, h2, h3, h4⟩ := h
  exact ⟨vs, h1, own_within h2 hi' hw, ⟨h3.len, fun i hi => ⟨own_within (h3.sub i hi).1 hi' hw, (h3.sub i hi).2⟩, h3.own, h3.apart⟩, h4⟩
/-- a round of a row of rounds, and what follows where it is written -/
theorem OwnRd.row {w : World} {bs n g c : Nat} {rs : List Bp.Rnd} (h : OwnRd w bs [] (.slice (some ⟨g, 0, none⟩) n c) n rs) {x m : Nat} (hx : x < n) (hm : (rs.getD x default).1.length = m) :
    ∃ gx cx, w.cell? ⟨g, x * 2, none⟩ = some (.slice (some ⟨gx, 0, none⟩) m cx) ∧ Own w bs (.slice (some ⟨gx, 0, none⟩) m cx) m (rs.getD x default).1 ∧ bs ≤ gx ∧ gx < w.heap.size ∧ bs ≤ g ∧ g < w.heap.size ∧ m ≤ cx ∧ gx ≠ g ∧
      w.cell? ⟨g, x * 2 + 1, none⟩ = some (.int .i64 (rs.getD x default).2) ∧ w.frozen? ⟨g, x * 2 + 1, none⟩ = false ∧
      ∀ w' zs o, zs.length = m → w.grownBy w' (some gx) → Own w' bs (.slice (some ⟨gx, 0, none⟩) m cx) m zs → OwnRd (w'.setCell ⟨g, x * 2 + 1, none⟩ (.int .i64 o)) bs [] (.slice (some ⟨g, 0, none⟩) n c) n (rs.set x (zs, o)) := by
  obtain ⟨vs, h1, h2, h3, h4⟩ := h
  have hvl : vs.length = rs.length := by have := h3.len; simpa using this
  have hk' : x < rs.length := by omega
  have hs := h3.sub x (by simpa using hk')
  have e1 : ((rs.map fun r => isub r.1).getD x default) = isub (rs.getD x default).1 := by simp [List.getD, hk']
  rw [e1] at hs
  have hblk := hs.block
  obtain ⟨hs1, gx, cx, hv'⟩ := hs
  rw [hv'] at hs1 hblk
  obtain ⟨_, e3, hb1, hb2⟩ := hblk
  have e4 : gx = _ := Option.some.inj e3
  subst e4
  have e2 : (isub (rs.getD x default).1).1 = m := hm
  rw [e2] at hs1 hv'
  obtain ⟨c1, c2⟩ := rcells_at vs (rs.map (·.2)) x (by rw [List.length_map]; exact hvl) (by simpa using hk')
  rw [hv'] at c1
  have e5 : (rs.map (·.2)).getD x 0 = (rs.getD x default).2 := by simp [List.getD, hk']
  rw [e5] at c2
  have d1 := h2.cells (g := g) rfl (x * 2) _ c1
  have d2 := h2.cells (g := g) rfl (x * 2 + 1) _ c2
  rw [add_zero_off] at d1 d2
  have hgl := h2.lt g rfl
  have hown : Own w bs (.slice (some ⟨gx, 0, none⟩) m cx) m (rs.getD x default).1 := hs1
  have hne : gx ≠ g := by
    have h5 := h3.own x (by simpa using hk')
    rw [hv'] at h5
    intro e
    subst e
    exact h5 rfl
  have hmc : m ≤ cx := by
    rcases hown.2 with ⟨e, _⟩ | ⟨g', cap, cur, e, _, _, hc, _⟩
    · cases e
    · injection e with _ _ e3
      omega
  refine ⟨gx, cx, by simpa using d1, hown, hb1, hb2, hgl.1, hgl.2, hmc, hne, by simpa using d2, h2.frozenAt _, fun w' zs o hz hg ho => ?_⟩
  have k2 := h2.kept hg (.inr (fun e => hne (Option.some.inj e).symm))
  have hst := k2.stored (x * 2 + 1) (.int .i64 o)
  have k3 := h3.set (w' := w') (i := x) (xs := zs.map (Value.int .i64)) (by simpa using hk') (by rw [hv']; exact hg) (by
    rw [e1, e2, hv']
    exact ⟨ho, gx, cx, rfl⟩)
  have k4 := k3.grown hst.2 (own' := some g) (.inl rfl)
  refine ⟨vs, by simp [h1], ?_, ?_, fun y hy => absurd hy (by simp)⟩
  · rw [List.map_set]
    have k5 := hst.1
    rw [rcells_set1 _ _ _ _ (by rw [List.length_map]; exact hvl)] at k5
    exact k5
  · rw [List.map_set]
    show Subs _ bs 3 1 (some g) vs ((rs.map fun r => isub r.1).set x (isub zs))
    have e6 : isub zs = (m, zs.map (Value.int .i64)) := by
      show (zs.length, _) = _
      rw [hz]
    rw [e1, e2] at k4
    rw [e6]
    exact k4
set_option maxRecDepth 100000 in
set_option maxHeartbeats 400000 in
theorem eqRound_same (A A' : Option Addr) (n c n' c' : Nat) (zs : List Int) (t : Int) (B B' : Nat) (w : World) (h : Ints w B A n zs) (h' : Ints w B' A' n' zs) (hB : B ≤ w.heap.size) (hB' : B' ≤ w.heap.size) (hn : n ≤ 1048576) :
    Calls Try.prog 33 #[.agg #[.slice A n c, .int .i64 t], .agg #[.slice A' n' c', .int .i64 t]] w fun e w' => e = .returned (.bool true) ∧ Below w.heap.size w w' := by
  have H := Lib.hid h
  have H' := Lib.hid h'
  clear h h'
  go_enter Try.func33, Try.ntmps33
  go_wp2_with fail
  refine (eqIntS_any A A' n c n' c' zs zs B B' _ (H.out.below ?_) (H'.out.below ?_) (by omega)).mono ?_
  · exact (((Below.refl _ _).alloc hB _).alloc (by simp; omega) _)
  · exact (((Below.refl _ _).alloc hB' _).alloc (by simp; omega) _)
  rintro e w1 ⟨rfl, hd⟩
  rw [decide_eq_true rfl]
  have hb := hd.below w.heap.size
  obtain ⟨hc1, hf1⟩ := bcell (hd.below _)
  go_wp2_with fail
  go_ret
  exact ⟨rfl, (((Below.refl _ _).alloc (Nat.le_refl _) _).alloc (by simp) _).trans hb⟩
set_option maxRecDepth 100000 in
set_option maxHeartbeats 400000 in
theorem eqRoundS_same (A A' : Option Addr) (n c n' c' : Nat) (rs : List Bp.Rnd) (B B' : Nat) (w : World) (h : RoundsV w B A n rs) (h' : RoundsV w B' A' n' rs) (hB : B ≤ w.heap.size) (hB' : B' ≤ w.heap.size) (hn : n ≤ 1048576) (hm : ∀ i, (rs.getD i default).1.length ≤ 1048576) :
    Calls Try.prog 11 #[.slice A n c, .slice A' n' c'] w fun e w' => e = .returned (.bool true) ∧ Below w.heap.size w w' := by
  have hnn : n' = n := by rw [← h.1, h'.1]
  subst hnn
  have Hm := Lib.hid hm
  clear hm
  go_enter Try.func11, Try.ntmps11
  go_wp2
  go_loopw [5] (fun i wr => ∃ k : Nat, k ≤ n' ∧ i = .int .i64 k ∧ Below w.heap.size w wr) (fun i _ => n' - (intOf i).toNat)
  case atStart => exact ⟨0, Nat.zero_le _, rfl, Below.refl _ _⟩
  case round =>
    obtain ⟨k, hk, rfl, hd⟩ := hrel
    have hsz := hd.size
    by_cases hlt : k < n'
    · obtain ⟨g1, o1, B1, m1, d1, zs1, t1, rfl, hg1, hc1, hm1, hz1, hco1, hr1⟩ := (h.below (hd.mono hB)).at hlt
      obtain ⟨g2, o2, B2, m2, d2, zs2, t2, rfl, hg2, hc2, hm2, hz2, hco2, hr2⟩ := (h'.below (hd.mono hB')).at hlt
      have hzz : (zs2, t2) = (zs1, t1) := by rw [← hr1.out, ← hr2.out]
      injection hzz with e1 e2
      subst e1; subst e2
      have hmb := Hm.out k
      rw [hr1.out] at hmb
      have h3 := hz1.1
      simp only at hmb
      have hm1b : m1 ≤ 1048576 := by omega
      have i1 : (0 : Int) ≤ (k : Int) := by omega
      have i2 : (k : Int) < (n' : Int) := by omega
      have hx1 := fun x => calm_cell (W := wr) hc1 x
      have hx2 := fun x => calm_cell (W := wr) hc2 x
      have hx3 := fun x => calm_cell (W := wr) hco1 x
      have hx4 := fun x => calm_cell (W := wr) hco2 x
      have H1 := Lib.hid hz1
      have H2 := Lib.hid hz2
      have l1 := Nat.le_trans hB hsz
      have l2 := Nat.le_trans hB' hsz
      clear hz1 hz2 h3 hmb hr1 hr2
      go_wp2_with fail
      refine wp_region_calm (by kernel_rfl) (by kernel_rfl) ?_
      repeat (go_big_quiet_step ((go_at_call 33; exact calm_call (eqRound_same _ _ _ _ _ _ _ _ B B' _ (H1.out.below ((Calm.ok _).mono l1)) (H2.out.below ((Calm.ok _).mono l2)) (Nat.le_trans l1 (Calm.ok _).size) (Nat.le_trans l2 (Calm.ok _).size) hm1b))))
      refine wpQuiet_nil ?_
      rintro _ ⟨⟨w1, hb1⟩, rfl⟩
      go_wp2_with fail
      go_roundw
      case rel => exact ⟨k + 1, by omega, by go_num, hd.trans (hb1.mono hsz)⟩
      case measure => simp [intOf]; omega
    · go_wp2_with fail
      go_ret
      exact ⟨rfl, hd⟩
set_option maxRecDepth 100000 in
set_option maxHeartbeats 400000 in
theorem markRoundS_own (A : Option Addr) (base n c : Nat) (rs : List Bp.Rnd) (k : Int) (w : World) (h : OwnRd w base [] (.slice A n c) n rs) (hbase : base ≤ w.heap.size) (hn : n ≤ 1024) (hm : ∀ i, (rs.getD i default).1.length ≤ 1024) (hk0 : 0 ≤ k) (hk1 : k ≤ 1048576) :
    Calls Try.prog 16 #[.slice A n c, .int .i64 k] w fun e w' => e = .returned (.int .i64 (rAt k rs n)) ∧ OwnRd w' base [] (.slice A n c) n (rMarked k rs n) ∧ Below base w w' := by
  have Hm := Lib.hid hm
  have Hlen := Lib.hid h.len
  have hA : 0 < n → ∃ g, A = some ⟨g, 0, none⟩ := fun h0 => by
    obtain ⟨vs, _, h2, _⟩ := h
    rcases h2.2 with ⟨_, e⟩ | ⟨g, cap, cur, hv, _⟩
    · omega
    · injection hv with hA _ _
      exact ⟨g, hA⟩
  clear hm
  go_enter Try.func16, Try.ntmps16
  go_wp2
  go_loopw [1, 5] (fun q i wr => ∃ j : Nat, j ≤ n ∧ i = .int .i64 j ∧ q = .int .i64 (rAt k rs j) ∧ OwnRd wr base [] (.slice A n c) n (rMarked k rs j) ∧ Below base w wr) (fun _ i _ => n - (intOf i).toNat)
  case atStart => exact ⟨0, Nat.zero_le _, rfl, rfl, h, Below.refl _ _⟩
  case round =>
    obtain ⟨j, hj, rfl, rfl, hown, hb⟩ := hrel
    have hz := hb.size
    have hbd := rAt_bd k rs Hm.out j
    by_cases hlt : j < n
    · obtain ⟨g, rfl⟩ := hA (by omega)
      obtain ⟨gx, cx, hcx, ownx, hbx, hlx, hbg, hgl, hmc, hne, hco, hfo, hset⟩ := hown.row hlt rfl
      have hlj := Hm.out j
      rw [rMarked_later k rs j j (Nat.le_refl _)] at hcx ownx hset hmc hco
      obtain ⟨m, hmm⟩ : ∃ m, (rs.getD j default).1.length = m := ⟨_, rfl⟩
      have hnx : rAt k rs (j + 1) = rAt k rs j + m + 1 := by rw [rAt, hmm]
      have hmk : rMarked k rs (j + 1) = (rMarked k rs j).set j (marks (rAt k rs j) m, rAt k rs j + m) := by rw [rMarked, hmm]
      rw [hmm] at hcx ownx hset hlj hmc
      obtain ⟨q, hq⟩ : ∃ q, rAt k rs j = q := ⟨_, rfl⟩
      rw [hq] at hbd hnx hmk ⊢
      obtain ⟨out, ho⟩ : ∃ o, (rs.getD j default).2 = o := ⟨_, rfl⟩
      rw [ho] at hco
      have hcall := markIntS_any gx m cx _ q wr (rown_up ownx) (by omega) (by omega) (by omega)
      have Hcall := Lib.hid hcall
      have Hnx := Lib.hid hnx
      have Hmk := Lib.hid hmk
      have Hset := Lib.hid hset
      have i1 : (0 : Int) ≤ (j : Int) := by omega
      have i2 : (j : Int) < (n : Int) := by omega
      have Hne := Lib.hid hne
      clear hcall hnx hmk hq hmm ownx hown hset hne ho
      go_wp2_with fail
      refine Hcall.out.mono ?_
      rintro e w1 ⟨rfl, own1, hg1⟩
      have hco1 : w1.cell? ⟨g, j * 2 + 1, none⟩ = some (.int .i64 out) := ((gcell hg1).1 g (j * 2 + 1) hgl (fun e => Hne.out e.symm)).trans hco
      have hfo1 : w1.frozen? ⟨g, j * 2 + 1, none⟩ = false := ((gcell hg1).2 g (j * 2 + 1) hgl (fun e => Hne.out e.symm)).trans hfo
      have hb1 := Lib.hid (hb.trans (below_only hg1 hbx (by omega)))
      have own2 := Lib.hid (Hset.out _ _ (q + m) (marks_len _ _) hg1 (own1.base hbx))
      clear own1 hg1 hco hfo
      go_wp2_with fail
      go_roundw
      case rel => exact ⟨j + 1, by omega, by go_num, by rw [Hnx.out], by rw [Hmk.out]; exact own2.out, hb1.out.setCell hbg _⟩
      case measure => simp [intOf]; omega
    · have hjn : j = n := by omega
      subst hjn
      go_wp2_with fail
      go_ret
      exact ⟨rfl, hown, hb⟩
set_option maxRecDepth 100000 in
set_option maxHeartbeats 400000 in
theorem heldRoundS_any (A : Option Addr) (n c : Nat) (rs : List Bp.Rnd) (k : Int) (B : Nat) (w : World) (h : RoundsV w B A n (rMarked k rs n)) (hn : n ≤ 1024) (hm : ∀ i, (rs.getD i default).1.length ≤ 1024) (hk0 : 0 ≤ k) (hk1 : k ≤ 1048576) :
    Calls Try.prog 17 #[.slice A n c, .int .i64 k] w fun e w' => e = .returned (.int .i64 (rAt k rs n)) ∧ w = w' := by
  have Hm := Lib.hid hm
  have hl := Lib.hid (show rs.length = n by have := h.1; rwa [rMarked_len] at this)
  clear hm
  go_enter Try.func17, Try.ntmps17
  go_wp2
  go_loop [1, 5] (fun q i => ∃ j : Nat, j ≤ n ∧ i = .int .i64 j ∧ q = .int .i64 (rAt k rs j)) (fun _ i => n - (intOf i).toNat)
  case atStart => exact ⟨0, Nat.zero_le _, rfl, rfl⟩
  case round =>
    obtain ⟨j, hj, rfl, rfl⟩ := hrel
    have hbd := rAt_bd k rs Hm.out j
    by_cases hlt : j < n
    · obtain ⟨g1, o1, B1, m1, d1, zs1, t1, rfl, hg1, hc1, hm1, hz1, hco1, hr1⟩ := h.at hlt
      have hlj := Hm.out j
      have hr := hr1.out
      rw [rMarked_at k rs j (by rw [hl.out]; exact hlt) n hlt] at hr
      injection hr with hra hrb
      have hmm : (rs.getD j default).1.length = m1 := by
        have := hz1.1
        rw [← hra, marks_len] at this
        exact this
      rw [hmm] at hra hrb hlj
      have hnx : rAt k rs (j + 1) = rAt k rs j + m1 + 1 := by rw [rAt, hmm]
      obtain ⟨q, hq⟩ : ∃ q, rAt k rs j = q := ⟨_, rfl⟩
      rw [hq] at hbd hnx hra hrb ⊢
      subst hra; subst hrb
      have hcall := heldIntS_any B1 m1 d1 q B w hz1 (by omega) (by omega) (by omega)
      have Hcall := Lib.hid hcall
      have Hnx := Lib.hid hnx
      have i1 : (0 : Int) ≤ (j : Int) := by omega
      have i2 : (j : Int) < (n : Int) := by omega
      have d1 : decide (q + (m1 : Int) < 0) = false := decide_eq_false (by omega)
      have b1 : -9223372036854775808 ≤ q + (m1 : Int) := by omega
      clear hcall hnx hq hmm hr1
      go_wp2_with fail
      refine Hcall.out.mono ?_
      rintro e w1 ⟨rfl, rfl⟩
      go_wp2_with fail
      go_round
      case rel => exact ⟨j + 1, by omega, by go_num, by rw [Hnx.out]⟩
      case measure => simp [intOf]; omega
    · have hjn : j = n := by omega
      subst hjn
      go_wp2_with fail
      go_ret
      exact ⟨rfl, rfl⟩
theorem smallRunoffRounds (ps : List Bp.Pile) (lots : List Int) (i : Nat) : ((rres (Bp.ok ps lots) (Bp.rounds ps lots)).getD i default).1.length ≤ 1024 := by
  cases h : Bp.ok ps lots
  · rw [rres_no rfl]; exact Nat.zero_le _
  · rw [rres_yes rfl]
    have hl := Bp.ok_lval h
    by_cases hi : i < (Bp.rounds ps lots).length
    · obtain ⟨_, _, h3⟩ := Bp.rounds_ok ps lots hl
      have hn := Bp.lval_n hl
      rw [(h3 i hi).counts, Bp.firsts_len, Bp.leftAfter_len]; simp; omega
    · have e : (Bp.rounds ps lots).getD i default = default := by unfold List.getD; rw [List.getElem?_eq_none (by omega)]; rfl
      rw [e]; exact Nat.zero_le _
end Go.Proofs.Ytleceoplfboefaa
