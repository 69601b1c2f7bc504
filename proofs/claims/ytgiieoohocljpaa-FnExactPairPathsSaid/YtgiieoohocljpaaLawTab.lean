/-
  The small functions of the statements on tables: comparisons, marks.
-/
import Derived.Test.YtgiieoohocljpaaTables
import Derived.Test.YtgiieoohocljpaaLawCopy
import Derived.Deep.RegionHeld
namespace Go.Proofs.Ytgiieoohocljpaa
set_option linter.unusedVariables false
open Go.RowKit

/-- which mark stands ahead of row i -/
def tAt (k : Int) (rows : List (List Int)) : Nat → Int
  | 0 => k
  | i + 1 => tAt k rows i + (rows.getD i []).length
/-- a table whose first i rows are marked -/
def tMarked (k : Int) (rows : List (List Int)) : Nat → List (List Int)
  | 0 => rows
  | i + 1 => (tMarked k rows i).set i (marks (tAt k rows i) (rows.getD i []).length)
theorem tMarked_len (k : Int) (rows : List (List Int)) : ∀ i, (tMarked k rows i).length = rows.length
  | 0 => rfl
  | i + 1 => by rw [tMarked, List.length_set, tMarked_len k rows i]
theorem tMarked_later (k : Int) (rows : List (List Int)) : ∀ i j, i ≤ j → (tMarked k rows i).getD j [] = rows.getD j []
  | 0, _, _ => rfl
  | i + 1, j, h => by
    rw [tMarked]
    have : ((tMarked k rows i).set i (marks (tAt k rows i) (rows.getD i []).length)).getD j [] = (tMarked k rows i).getD j [] := by simp [List.getD, List.getElem?_set_ne (show i ≠ j by omega)]
    rw [this, tMarked_later k rows i j (by omega)]
theorem tMarked_at (k : Int) (rows : List (List Int)) (j : Nat) (hj : j < rows.length) : ∀ i, j < i → (tMarked k rows i).getD j [] = marks (tAt k rows j) (rows.getD j []).length
  | 0, h => absurd h (by omega)
  | i + 1, h => by
    rw [tMarked]
    by_cases e : i = j
    · subst e
      simp [List.getD, tMarked_len, hj]
    · have : ((tMarked k rows i).set i (marks (tAt k rows i) (rows.getD i []).length)).getD j [] = (tMarked k rows i).getD j [] := by simp [List.getD, List.getElem?_set_ne e]
      rw [this, tMarked_at k rows j hj i (by omega)]
theorem tAt_bd (k : Int) (rows : List (List Int)) (h : ∀ i, (rows.getD i []).length ≤ 1024) : ∀ i, k ≤ tAt k rows i ∧ tAt k rows i ≤ k + 1024 * i
  | 0 => ⟨Int.le_refl _, by rw [tAt]; omega⟩
  | i + 1 => by
    have := tAt_bd k rows h i
    have := h i
    rw [tAt]
    omega
theorem own_up {w : World} {base g n c : Nat} {zs : List Int} (h : Own w base (.slice (some ⟨g, 0, none⟩) n c) n zs) : Own w g (.slice (some ⟨g, 0, none⟩) n c) n zs := by
  refine ⟨h.1, ?_⟩
  rcases h.2 with ⟨hv, _⟩ | ⟨g', cap', cur', hv', hb', hrest⟩
  · cases hv
  · injection hv' with h1 h2 h3
    injection h1 with h1
    injection h1 with h1
    subst h1; subst h3
    exact .inr ⟨g, _, cur', rfl, Nat.le_refl _, hrest⟩
theorem OwnTb.within {lo hi base : Nat} {w w' : World} {v : Value} {n : Nat} {rows : List (List Int)} (h : OwnTb w base v n rows) (hi' : hi ≤ base) (hw : Within lo hi w w') : OwnTb w' base v n rows := by
  obtain ⟨vs, h1, h2, h3⟩ := h
  exact ⟨vs, h1, own_within h2 hi' hw, ⟨h3.len, fun i hi => ⟨own_within (h3.sub i hi).1 hi' hw, (h3.sub i hi).2⟩, h3.own, h3.apart⟩⟩
theorem small_tabs (ps : List Bp.Pile) (q : Int) (ok : Bool) (f : Nat → Nat → Int) (hq : ok = true → q ≤ 5) (i : Nat) : ((tres ok (Bp.tabs q.toNat f)).getD i []).length ≤ 1024 := by
  cases ok
  · rw [tres_no rfl]; simp
  · rw [tres_yes rfl]
    have := hq rfl
    by_cases h : i < q.toNat
    · rw [Bp.tabs_at _ _ h, Bp.tab_len]; omega
    · have e : (Bp.tabs q.toNat f).getD i [] = [] := by unfold List.getD; rw [List.getElem?_eq_none (by rw [Bp.tabs_len]; omega)]; rfl
      rw [e]; simp
theorem smallPairCounts (ps : List Bp.Pile) (q : Int) (i : Nat) : ((tres (Bp.fits ps q) (Bp.pairs ps q.toNat)).getD i []).length ≤ 1024 := small_tabs ps q _ _ (fun h => (Bp.fits_n h).2) i
set_option maxRecDepth 100000 in
set_option maxHeartbeats 400000 in
theorem eqIntSS_same (A A' : Option Addr) (n c n' c' : Nat) (rows : List (List Int)) (B B' : Nat) (w : World) (h : TabV w B A n rows) (h' : TabV w B' A' n' rows) (hn : n ≤ 1048576) (hm : ∀ i, (rows.getD i []).length ≤ 1024) :
    Calls Try.prog 12 #[.slice A n c, .slice A' n' c'] w fun e w' => e = .returned (.bool true) ∧ Drawn w w' := by
  have hnn : n' = n := by rw [← h.1, h'.1]
  subst hnn
  have Hm := Lib.hid hm
  clear hm
  go_enter Try.func12, Try.ntmps12
  go_wp2
  go_loopw [5] (fun i wr => ∃ k : Nat, k ≤ n' ∧ i = .int .i64 k ∧ Drawn w wr) (fun i _ => n' - (intOf i).toNat)
  case atStart => exact ⟨0, Nat.zero_le _, rfl, Drawn.refl _⟩
  case round =>
    obtain ⟨k, hk, rfl, hd⟩ := hrel
    by_cases hlt : k < n'
    · obtain ⟨g1, o1, B1, m1, d1, zs1, rfl, hg1, hc1, hm1, hz1, hr1⟩ := (h.below (hd.below B)).at hlt
      obtain ⟨g2, o2, B2, m2, d2, zs2, rfl, hg2, hc2, hm2, hz2, hr2⟩ := (h'.below (hd.below B')).at hlt
      have hzz : zs2 = zs1 := by rw [← hr1.out, ← hr2.out]
      subst hzz
      have hmb := Hm.out k
      rw [hr1.out, hz1.1] at hmb
      have hcall := eqIntS_any B1 B2 m1 d1 m2 d2 zs2 zs2 _ _ wr.drew (hz1.below ((Below.refl _ _).drew)) (hz2.below ((Below.refl _ _).drew)) (by omega)
      rw [show decide (zs2 = zs2) = true by simp] at hcall
      have Hcall := Lib.hid hcall
      have i1 : (0 : Int) ≤ (k : Int) := by omega
      have i2 : (k : Int) < (n' : Int) := by omega
      clear hcall
      go_wp2_with fail
      go_region_held (fun w' => w'.cell? ⟨g1, o1 + k, none⟩ = some (.slice B1 m1 d1) ∧ w'.cell? ⟨g2, o2 + k, none⟩ = some (.slice B2 m2 d2)) (go_keep)
        ((go_at_call 21; refine Hcall.out.mono ?_; rintro e w5 ⟨rfl, hd5⟩; have f1 := ((hd5.below B).cell (p := ⟨g1, o1 + k, none⟩) hg1).trans hc1; have f2 := ((hd5.below B').cell (p := ⟨g2, o2 + k, none⟩) hg2).trans hc2))
      all_goals
        go_wp2_with fail
        go_roundw
        case rel => exact ⟨k + 1, by omega, by go_num, hd.drew.trans hd5⟩
        case measure => simp [intOf]; omega
    · go_wp2_with fail
      go_ret
      exact ⟨rfl, hd⟩
set_option maxRecDepth 100000 in
set_option maxHeartbeats 400000 in
theorem markIntSS_own (A : Option Addr) (base n c : Nat) (rows : List (List Int)) (k : Int) (w : World) (h : OwnTb w base (.slice A n c) n rows) (hbase : base ≤ w.heap.size) (hn : n ≤ 1024) (hm : ∀ i, (rows.getD i []).length ≤ 1024) (hk0 : 0 ≤ k) (hk1 : k ≤ 1048576) :
    Calls Try.prog 15 #[.slice A n c, .int .i64 k] w fun e w' => e = .returned (.int .i64 (tAt k rows n)) ∧ OwnTb w' base (.slice A n c) n (tMarked k rows n) ∧ Below base w w' := by
  have Hm := Lib.hid hm
  have Hlen := Lib.hid h.len
  have hA : 0 < n → ∃ g, A = some ⟨g, 0, none⟩ := fun h0 => by
    obtain ⟨vs, _, h2, _⟩ := h
    rcases h2.2 with ⟨_, e⟩ | ⟨g, cap, cur, hv, _⟩
    · omega
    · injection hv with hA _ _
      exact ⟨g, hA⟩
  clear hm
  go_enter Try.func15, Try.ntmps15
  go_wp2
  go_loopw [1, 5] (fun q i wr => ∃ j : Nat, j ≤ n ∧ i = .int .i64 j ∧ q = .int .i64 (tAt k rows j) ∧ OwnTb wr base (.slice A n c) n (tMarked k rows j) ∧ Below base w wr) (fun _ i _ => n - (intOf i).toNat)
  case atStart => exact ⟨0, Nat.zero_le _, rfl, rfl, h, Below.refl _ _⟩
  case round =>
    obtain ⟨j, hj, rfl, rfl, hown, hb⟩ := hrel
    have hz := hb.size
    have hbd := tAt_bd k rows Hm.out j
    by_cases hlt : j < n
    · obtain ⟨g, rfl⟩ := hA (by omega)
      obtain ⟨gx, cx, hcx, ownx, hbx, hlx, hgl, hmc, hset⟩ := hown.row hlt rfl
      have hlj := Hm.out j
      rw [tMarked_later k rows j j (Nat.le_refl _)] at hcx ownx hset hmc
      obtain ⟨m, hmm⟩ : ∃ m, (rows.getD j []).length = m := ⟨_, rfl⟩
      have hnx : tAt k rows (j + 1) = tAt k rows j + m := by rw [tAt, hmm]
      have hmk : tMarked k rows (j + 1) = (tMarked k rows j).set j (marks (tAt k rows j) m) := by rw [tMarked, hmm]
      rw [hmm] at hcx ownx hset hlj hmc
      obtain ⟨q, hq⟩ : ∃ q, tAt k rows j = q := ⟨_, rfl⟩
      rw [hq] at hbd hnx hmk ⊢
      have hcall := markIntS_any gx m cx _ q wr (own_up ownx) (by omega) (by omega) (by omega)
      have Hcall := Lib.hid hcall
      have Hnx := Lib.hid hnx
      have Hmk := Lib.hid hmk
      have Hset := Lib.hid hset
      have i1 : (0 : Int) ≤ (j : Int) := by omega
      have i2 : (j : Int) < (n : Int) := by omega
      clear hcall hnx hmk hq hmm ownx hown hset
      go_wp2_with fail
      refine Hcall.out.mono ?_
      rintro e w1 ⟨rfl, own1, hg1⟩
      go_wp2_with fail
      go_roundw
      case rel => exact ⟨j + 1, by omega, by go_num, by rw [Hnx.out], by rw [Hmk.out]; exact Hset.out _ _ (marks_len _ _) hg1 (own1.base hbx), hb.trans (below_only hg1 hbx (by omega))⟩
      case measure => simp [intOf]; omega
    · have hjn : j = n := by omega
      subst hjn
      go_wp2_with fail
      go_ret
      exact ⟨rfl, hown, hb⟩
set_option maxRecDepth 100000 in
set_option maxHeartbeats 400000 in
theorem heldIntSS_any (A : Option Addr) (n c : Nat) (rows : List (List Int)) (k : Int) (B : Nat) (w : World) (h : TabV w B A n (tMarked k rows n)) (hn : n ≤ 1024) (hm : ∀ i, (rows.getD i []).length ≤ 1024) (hk0 : 0 ≤ k) (hk1 : k ≤ 1048576) :
    Calls Try.prog 16 #[.slice A n c, .int .i64 k] w fun e w' => e = .returned (.int .i64 (tAt k rows n)) ∧ w = w' := by
  have Hm := Lib.hid hm
  have hl := Lib.hid (show rows.length = n by have := h.1; rwa [tMarked_len] at this)
  clear hm
  go_enter Try.func16, Try.ntmps16
  go_wp2
  go_loop [1, 5] (fun q i => ∃ j : Nat, j ≤ n ∧ i = .int .i64 j ∧ q = .int .i64 (tAt k rows j)) (fun _ i => n - (intOf i).toNat)
  case atStart => exact ⟨0, Nat.zero_le _, rfl, rfl⟩
  case round =>
    obtain ⟨j, hj, rfl, rfl⟩ := hrel
    have hbd := tAt_bd k rows Hm.out j
    by_cases hlt : j < n
    · obtain ⟨g1, o1, B1, m1, d1, zs1, rfl, hg1, hc1, hm1, hz1, hr1⟩ := h.at hlt
      have hlj := Hm.out j
      have hr := hr1.out
      rw [tMarked_at k rows j (by rw [hl.out]; exact hlt) n hlt] at hr
      have hmm : (rows.getD j []).length = m1 := by
        have := hz1.1
        rw [← hr, marks_len] at this
        exact this
      rw [hmm] at hr hlj
      subst hr
      have hnx : tAt k rows (j + 1) = tAt k rows j + m1 := by rw [tAt, hmm]
      obtain ⟨q, hq⟩ : ∃ q, tAt k rows j = q := ⟨_, rfl⟩
      rw [hq] at hbd hnx hz1 ⊢
      have hcall := heldIntS_any B1 m1 d1 q B w hz1 (by omega) (by omega) (by omega)
      have Hcall := Lib.hid hcall
      have Hnx := Lib.hid hnx
      have i1 : (0 : Int) ≤ (j : Int) := by omega
      have i2 : (j : Int) < (n : Int) := by omega
      have d1 : decide (q + (m1 : Int) < 0) = false := decide_eq_false (by omega)
      clear hcall hnx hq hmm hr1
      go_wp2_with fail
      refine Hcall.out.mono ?_
      rintro e w1 ⟨rfl, rfl⟩
      go_wp2_with fail
      go_round
      case rel => exact ⟨j + 1, by omega, by go_num, by rw [Hnx.out]⟩
      case measure => simp [intOf]; omega
    · have hjn : j = n := by omega
      subst hjn
      go_wp2_with fail
      go_ret
      exact ⟨rfl, rfl⟩
end Go.Proofs.Ytgiieoohocljpaa
