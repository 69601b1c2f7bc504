/-
  Drawn piles and drawn truths: some of the call's own.
-/
import Derived.Test.YtdcfpobjiofnmaaDrawBallot
namespace Go.Proofs.Ytdcfpobjiofnmaa
set_option linter.unusedVariables false
open Go.RowKit

/-- drawn truths of the call's own -/
def DrawnTruths (m : Nat) (w : World) (g b : Nat) (e : Ending) (w' : World) : Prop :=
  ∃ (A : Option Addr) (n c : Nat) (zs : List Bool), e = .returned (.slice A n c) ∧ n ≤ c ∧ n ≤ m ∧ OwnB w' w.heap.size (.slice A n c) n zs ∧ w.grownBy w' (some g) ∧ RdLe w' g b

/-- what the reference's PilesAdd leaves: where it answers yes, piles of the call's own -/
def AddP (n : Nat) (w : World) (e : Ending) (w' : World) : Prop :=
  ∃ (A : Option Addr) (n' c' : Nat) (k : Bool), e = .returned (.tuple #[.slice A n' c', .bool k]) ∧
    (k = true → ∃ (g' : Nat) (ps : List (ByteArray × Int)), A = some ⟨g', 0, none⟩ ∧ n' ≤ c' ∧ n' ≤ n + 1 ∧ (∀ p ∈ ps, p.1.size ≤ 1048576) ∧ OwnP w' w.heap.size (.slice A n' c') n' ps) ∧ Below w.heap.size w w'
set_option maxRecDepth 100000 in
set_option maxHeartbeats 400000 in
theorem sPilesAdd_some (g n c : Nat) (ps : List Bp.Pile) (s : ByteArray) (m : Int) (w : World) (h : Piles w w.heap.size (some ⟨g, 0, none⟩) n ps) (hn : n ≤ 1000) (hnc : n ≤ c) (hs : s.size ≤ 1048576) :
    Calls Try.prog 78 #[.slice (some ⟨g, 0, none⟩) n c, .string s, .int .i64 m] w (AddP n w) := by
  cases hv : Bp.psval ps
  · go_enter Try.func78, Try.ntmps78
    go_wp2_with fail
    refine (sPilesValid_any _ n c ps _ h (by omega)).mono ?_
    rintro e w1 ⟨rfl, hb1⟩
    have hs1 := hb1.size
    go_wp2_with fail
    go_ret2
    exact ⟨_, 0, 0, false, rfl, (fun h => by cases h), (by repeat (first | exact Below.refl _ _ | assumption | refine below_drewN ?_ _ | refine Below.drew ?_ | refine Below.alloc ?_ (by first | exact Nat.le_refl _ | omega | (simp; done) | (simp; omega)) _ | refine Below.setCell ?_ (by first | exact Nat.le_refl _ | omega | (simp; done) | (simp; omega)) _))⟩
  have Hv := Lib.hid hv
  cases hp : Bp.pval (s, m)
  · go_enter Try.func78, Try.ntmps78
    go_wp2_with fail
    refine (sPilesValid_any _ n c ps _ h (by omega)).mono ?_
    rintro e w1 ⟨rfl, hb1⟩
    have hs1 := hb1.size
    go_wp2_with fail
    refine (l3Pile_any s m _ hs).mono ?_
    rintro e w2 ⟨rfl, hb2⟩
    have hs2 := hb2.size
    have hB2 := hb1.trans (hb2.mono hs1)
    go_wp2_with fail
    go_ret2
    exact ⟨_, 0, 0, false, rfl, (fun h => by cases h), (by repeat (first | exact Below.refl _ _ | assumption | refine below_drewN ?_ _ | refine Below.drew ?_ | refine Below.alloc ?_ (by first | exact Nat.le_refl _ | omega | (simp; done) | (simp; omega)) _ | refine Below.setCell ?_ (by first | exact Nat.le_refl _ | omega | (simp; done) | (simp; omega)) _))⟩
  · have hm := (Bp.pval_iff _).1 hp
    have hm1 : 1 ≤ m := hm.2.1
    have hm2 : m ≤ 99 := hm.2.2
    clear hm
    go_enter Try.func78, Try.ntmps78
    go_wp2_with fail
    refine (sPilesValid_any _ n c ps _ h (by omega)).mono ?_
    rintro e w1 ⟨rfl, hb1⟩
    have hs1 := hb1.size
    go_wp2_with fail
    refine (l3Pile_any s m _ hs).mono ?_
    rintro e w2 ⟨rfl, hb2⟩
    have hs2 := hb2.size
    have hB2 := hb1.trans (hb2.mono hs1)
    go_wp2_with fail
    refine (l3Put_some g n c ps s m _ ((h.below hB2).mono (by omega)) hn hnc hs (by omega) (by omega) Hv.out).mono ?_
    rintro e w3 ⟨g', n', c', qs, rfl, hn', hc', hq, hown, hb3⟩
    have hs3 := hb3.size
    have hB3 := hB2.trans (hb3.mono (by omega))
    have hview := hown.piles.fine hq
    clear hv hp
    cases hv' : Bp.psval qs
    · go_wp2_with fail
      refine (sPilesValid_any _ n' c' qs _ hview (by omega)).mono ?_
      rintro e w4 ⟨rfl, hb4⟩
      have hs4 := hb4.size
      have hB4 := hB3.trans (hb4.mono (by omega))
      go_wp2_with fail
      go_ret2
      exact ⟨_, 0, 0, false, rfl, (fun h => by cases h), (by repeat (first | exact Below.refl _ _ | assumption | refine below_drewN ?_ _ | refine Below.drew ?_ | refine Below.alloc ?_ (by first | exact Nat.le_refl _ | omega | (simp; done) | (simp; omega)) _ | refine Below.setCell ?_ (by first | exact Nat.le_refl _ | omega | (simp; done) | (simp; omega)) _))⟩
    · go_wp2_with fail
      refine (sPilesValid_any _ n' c' qs _ hview (by omega)).mono ?_
      rintro e w4 ⟨rfl, hb4⟩
      have hs4 := hb4.size
      have hB4 := hB3.trans (hb4.mono (by omega))
      go_wp2_with fail
      go_ret2
      exact ⟨_, n', c', true, rfl, fun _ => ⟨g', qs, rfl, hc', hn', hq, (hown.keep hb4).base (by omega)⟩, hB4⟩

/-- drawn piles of the call's own -/
def DrawnPiles (w : World) (g b : Nat) (e : Ending) (w' : World) : Prop :=
  ∃ (g' n c : Nat) (ps : List (ByteArray × Int)), e = .returned (.slice (some ⟨g', 0, none⟩) n c) ∧ n ≤ c ∧ n ≤ 100 ∧ (∀ p ∈ ps, p.1.size ≤ 1048576) ∧ OwnP w' w.heap.size (.slice (some ⟨g', 0, none⟩) n c) n ps ∧ w.grownBy w' (some g) ∧ RdLe w' g b
theorem own_only' {w w' : World} {base g : Nat} {e : TypeId} {sz : Nat} {v : Value} {n : Nat} {xs : List Value} (h : w.ownsRow base e sz v n xs) (hg : w.grownBy w' (some g)) (hlt : g < base) : w'.ownsRow base e sz v n xs :=
  h.kept hg (by
    rcases h.2 with ⟨rfl, _⟩ | ⟨g', cap, cur, rfl, hb, _⟩
    · exact .inl rfl
    · exact .inr (by simp [Value.ownBlock]; omega))
theorem OwnP.only {w w' : World} {base g : Nat} {v : Value} {n : Nat} {ps : List (ByteArray × Int)} (h : OwnP w base v n ps) (hg : w.grownBy w' (some g)) (hlt : g < base) : OwnP w' base v n ps := own_only' h hg hlt
theorem only_set_new {w a : World} {g gl : Nat} (h : w.grownBy a (some g)) (hgl : w.heap.size ≤ gl) {o : Nat} (u : Value) : w.grownBy (a.setCell ⟨gl, o, none⟩ u) (some g) := only_setCell h (.inr hgl) u
theorem rd_far {w : World} {g b b' gl : Nat} (h : RdLe w g b) (hg : g < gl) {o : Nat} (u : Value) (hb : b ≤ b' := by omega) : RdLe (w.setCell ⟨gl, o, none⟩ u) g b' := (h.far hg u).mono hb
theorem pset_sizes {ps : List (ByteArray × Int)} (h : ∀ p ∈ ps, p.1.size ≤ 1048576) {t : ByteArray} (ht : t.size ≤ 1048576) (k : Nat) (m : Int) : ∀ p ∈ ps.set k (t, m), p.1.size ≤ 1048576 := fun p hp => by
  rcases List.mem_or_eq_of_mem_set hp with h1 | h1
  · exact h p h1
  · subst h1; exact ht
theorem papp_sizes {ps : List (ByteArray × Int)} (h : ∀ p ∈ ps, p.1.size ≤ 1048576) {t : ByteArray} (ht : t.size ≤ 1048576) (m : Int) : ∀ p ∈ ps ++ [(t, m)], p.1.size ≤ 1048576 := fun p hp => by
  rcases List.mem_append.1 hp with h1 | h1
  · exact h p h1
  · simp only [List.mem_singleton] at h1; subst h1; exact ht
/-- one number of a pile written -/
theorem own_pset2 {w : World} {base gl k c en : Nat} {ps : List (ByteArray × Int)} {t : ByteArray} {m : Int} (h : OwnP w base (.slice (some ⟨gl, 0, none⟩) k c) k ps) (hl : en < ps.length) (hp : ps.getD en default = (t, m)) (x : Int) :
    OwnP (w.setCell ⟨gl, en * 2 + 1, none⟩ (.int .i64 x)) base (.slice (some ⟨gl, 0, none⟩) k c) k (ps.set en (t, x)) := by
  have e := pcells_set ps en t x hl
  have e2 : (pcells ps).set (en * 2) (.string t) = pcells ps := by
    have e3 := (pcells_at ps en hl).1
    rw [hp] at e3
    exact set_self _ _ _ e3
  rw [e2] at e
  unfold OwnP
  rw [← e]
  exact (h.row.stored (en * 2 + 1) (.int .i64 x)).1
/-- one text of a pile written -/
theorem own_pset1 {w : World} {base gl k c en : Nat} {ps : List (ByteArray × Int)} {t : ByteArray} {m : Int} (h : OwnP w base (.slice (some ⟨gl, 0, none⟩) k c) k ps) (hl : en < ps.length) (hp : ps.getD en default = (t, m)) (x : ByteArray) :
    OwnP (w.setCell ⟨gl, en * 2, none⟩ (.string x)) base (.slice (some ⟨gl, 0, none⟩) k c) k (ps.set en (x, m)) := by
  have e := pcells_set ps en x m hl
  have e2 : ((pcells ps).set (en * 2) (.string x)).set (en * 2 + 1) (.int .i64 m) = (pcells ps).set (en * 2) (.string x) := by
    apply set_self
    rw [List.getElem?_set_ne (by omega)]
    have e3 := (pcells_at ps en hl).2
    rw [hp] at e3
    exact e3
  rw [e2] at e
  unfold OwnP
  rw [← e]
  exact (h.row.stored (en * 2) (.string x)).1

set_option maxRecDepth 100000 in
set_option maxHeartbeats 2000000 in
theorem l91Piles_some (g b : Nat) (n : Int) (w : World) (h : RdLe w g b) (hp : b ≤ 10000000) (hn0 : -1000 ≤ n) (hn1 : n ≤ 1000) :
    Calls Try.prog 56 #[.pointer (some ⟨g, 0, none⟩), .int .i64 n] w (DrawnPiles w g (b + 1000)) := by
  have hlt := h.lt
  obtain ⟨i0, hi0, hz0, hz1, hz2⟩ := info_parts pile_row0
  go_enter Try.func56, Try.ntmps56
  go_wp2_with fail
  refine (pick_b g b 8 _ (h.alloc _) (by omega)).mono ?_
  rintro e w1 ⟨q, rfl, hq0, hq1, -, hg1, hr1⟩
  have hq := hq1 (by omega)
  have O1 : w.grownBy w1 (some g) := only_trans (only_of_below (by repeat (first | exact Below.refl _ _ | assumption | refine below_drewN ?_ _ | refine Below.drew ?_ | refine Below.alloc ?_ (by first | exact Nat.le_refl _ | omega | (simp; done) | (simp; omega)) _ | refine Below.setCell ?_ (by first | exact Nat.le_refl _ | omega | (simp; done) | (simp; omega)) _)) _) hg1
  have own1 : OwnP w1 w.heap.size (.slice (some ⟨w.heap.size, 0, none⟩) 0 0) 0 [] := OwnP.only (own_lit0 (Nat.le_refl _)) hg1 hlt
  clear hg1 hq1
  go_wp2_with fail
  refine (pick_b g (b + 1) 14 _ hr1 (by omega)).mono ?_
  rintro e w2 ⟨x, rfl, hx0, -, -, hg2, hr2⟩
  have O2 := only_trans O1 hg2
  have own2 := OwnP.only own1 hg2 hlt
  clear O1 own1 hr1 hg2
  by_cases hx : x = 0
  · subst hx
    go_wp2_with fail
    go_loopw [5, 7] (fun v i wr => ∃ j : Nat, j ≤ 40 ∧ i = .int .i64 j ∧ (∃ gl k c ps, v = .slice (some ⟨gl, 0, none⟩) k c ∧ k ≤ c ∧ k ≤ j ∧ Hid (∀ p ∈ ps, p.1.size ≤ 1048576) ∧ OwnP wr w.heap.size (.slice (some ⟨gl, 0, none⟩) k c) k ps) ∧ w.grownBy wr (some g) ∧ RdLe wr g (b + 2 + 13 * j)) (fun _ i _ => 40 - (intOf i).toNat)
    case atStart => exact ⟨0, by omega, rfl, ⟨_, 0, 0, [], rfl, Nat.le_refl _, Nat.le_refl _, (fun p hp => by cases hp), own2⟩, O2, hr2.mono (by omega)⟩
    case round =>
      obtain ⟨j, hj, rfl, ⟨gl, k, c, ps, rfl, hkc, hkj, hsz, hown⟩, hO, hr⟩ := hrel
      clear own2 O2 hr2
      by_cases hjM : (j : Int) < 40
      · go_wp2_with fail
        refine (l91Ballot_some g (b + 2 + 13 * j) n _ hr (by omega) hn0 hn1).mono ?_
        rintro e w3 ⟨A3, n3, c3, zs, rfl, hc3, hn3, own3, hg3, hr3⟩
        have O3 := only_trans hO hg3
        have ownp3 := OwnP.only hown hg3 hlt
        clear hown hg3 hO hr
        go_wp2_with fail
        refine (sBallotText_some A3 n3 c3 zs _ _ own3.ints (by omega) hc3).mono ?_
        rintro e w4 ⟨t, rfl, ht, hd4⟩
        have hb4 := hd4.below w3.heap.size
        have O4 := only_keep O3 hb4
        have ownp4 := ownp3.keep hb4
        have hr4 := hr3.keep hb4
        clear ownp3 O3 hr3 hd4 hb4 own3
        go_wp2_with fail
        refine (pick_b g (b + 2 + 13 * j + 12) 9 _ hr4 (by omega)).mono ?_
        rintro e w5 ⟨y, rfl, hy0, hy1, -, hg5, hr5⟩
        have hy := hy1 (by omega)
        have O5 := only_trans O4 hg5
        have ownp5 := OwnP.only ownp4 hg5 hlt
        clear ownp4 O4 hr4 hg5 hy1
        have hs5 := O5.size
        go_wp2_with fail
        refine (sPilesAdd_some gl k c ps t (1 + y) _ (ownp5.piles.fine hsz.out) (by omega) hkc (by omega)).mono ?_
        rintro e w6 ⟨A6, n6, c6, ok, rfl, hok, hb6⟩
        have O6 := only_keep O5 hb6
        have ownp6 := ownp5.keep hb6
        have hr6 := hr5.keep hb6
        cases ok
        · clear hok
          go_wp2_with fail
          go_roundw
          case rel => exact ⟨j + 1, by omega, by go_num, ⟨gl, k, c, ps, rfl, hkc, by omega, hsz, ownp6⟩, O6, hr6.mono (by omega)⟩
          case measure => simp [intOf]; omega
        · obtain ⟨g6, ps6, rfl, hnc6, hn6, hsz6, own6⟩ := hok rfl
          have Hsz6 := Lib.hid hsz6
          clear hok hsz6
          go_wp2_with fail
          go_roundw
          case rel => exact ⟨j + 1, by omega, by go_num, ⟨g6, n6, c6, ps6, rfl, hnc6, by omega, Hsz6, own6.base hs5⟩, O6, hr6.mono (by omega)⟩
          case measure => simp [intOf]; omega
      · have hj40 : j ≤ 40 := hj
        by_cases hk0 : k = 0
        · subst hk0
          go_wp2_with fail
          go_ret
          exact ⟨gl, 0, c, ps, rfl, hkc, by omega, hsz.out, hown, hO, hr.mono (by omega)⟩
        have hk00 : (0 : Int) < (k : Int) := by omega
        go_wp2_with fail
        refine (pick_b g (b + 2 + 13 * j) k _ hr (by omega)).mono ?_
        rintro e w4 ⟨e0, rfl, he0, he1, -, hg4, hr4⟩
        have hek := he1 (by omega)
        clear he1
        obtain ⟨en, rfl⟩ := Int.eq_ofNat_of_zero_le he0
        have hen : en < k := by omega
        have O4 := only_trans hO hg4
        have own4 := OwnP.only hown hg4 hlt
        clear hown hg4 hO hr
        go_wp2_with fail
        refine (pick_b g (b + 2 + 13 * j + 1) 30 _ hr4 (by omega)).mono ?_
        rintro e w5 ⟨sw, rfl, hsw0, -, -, hg5, hr5⟩
        have O5 := only_trans O4 hg5
        have own5 := OwnP.only own4 hg5 hlt
        clear own4 hg5 O4 hr4
        have hs5 := O5.size
        have hlq : en < ps.length := by rw [own5.len]; exact hen
        have hgl := (own5.row.lt gl rfl).2
        have hgb := (own5.row.lt gl rfl).1
        obtain ⟨t0, m0, hp0⟩ : ∃ t0 m0, ps.getD en default = (t0, m0) := ⟨_, _, rfl⟩
        have hd1 : w5.cell? ⟨gl, en * 2, none⟩ = some (.string t0) := by
          have e := (pcells_at ps en hlq).1
          rw [hp0] at e
          exact (own5.row.cellAt (en * 2) (by omega)).trans e
        have hd2 : w5.cell? ⟨gl, en * 2 + 1, none⟩ = some (.int .i64 m0) := by
          have e := (pcells_at ps en hlq).2
          rw [hp0] at e
          exact (own5.row.cellAt (en * 2 + 1) (by omega)).trans e
        have hf1 : w5.frozen? ⟨gl, en * 2, none⟩ = false := own5.row.frozenAt _
        have hf2 : w5.frozen? ⟨gl, en * 2 + 1, none⟩ = false := own5.row.frozenAt _
        have ht0 : Hid (t0.size ≤ 1048576) := by
          have e : ps.getD en default = ps[en] := by simp [List.getD, hlq]
          have := hsz.out ps[en] (List.getElem_mem hlq)
          rw [← e, hp0] at this
          exact this
        have Hlq := Lib.hid hlq
        have Hp0 := Lib.hid hp0
        clear hlq hp0
        by_cases hs0 : sw = 0
        · subst hs0
          go_wp2_with fail
          refine (pick_b g (b + 2 + 13 * j + 2) 3 _ (hr5.alloc _) (by omega)).mono ?_
          rintro e w6 ⟨y, rfl, hy0, hy1, -, hg6, hr6⟩
          have hy := hy1 (by omega)
          have hs6 := hg6.size
          simp at hs6
          have O6 : w.grownBy w6 (some g) := only_trans (only_alloc O5 _) hg6
          have own6 : OwnP w6 w.heap.size (.slice (some ⟨gl, 0, none⟩) k c) k ps := OwnP.only (own5.row.alloc _) hg6 hlt
          have hx0 : w6.cell? ⟨w5.heap.size, 0, none⟩ = some (.int .i64 0) := hg6.cell (by simp [go_sem]) (by simp; omega)
          have hx1 : w6.cell? ⟨w5.heap.size, 1, none⟩ = some (.int .i64 99) := hg6.cell (by simp [go_sem]) (by simp; omega)
          have hx2 : w6.cell? ⟨w5.heap.size, 2, none⟩ = some (.int .i64 100) := hg6.cell (by simp [go_sem]) (by simp; omega)
          have hd2' : w6.cell? ⟨gl, en * 2 + 1, none⟩ = some (.int .i64 m0) := hg6.cell ((World.cell?_alloc_lt w5 _ _ hgl).trans hd2) (by simp; omega)
          have hf2' : w6.frozen? ⟨gl, en * 2 + 1, none⟩ = false := own6.row.frozenAt _
          clear hg6 own5 hd1 hd2 hf1 hf2 hr5 O5 hy1
          rcases (show y = 0 ∨ y = 1 ∨ y = 2 by omega) with rfl | rfl | rfl
          all_goals
            go_wp2_with fail
            go_ret
            exact ⟨gl, k, c, _, rfl, hkc, by omega, pset_sizes hsz.out ht0.out en _, own_pset2 own6 Hlq.out Hp0.out _, only_set_new O6 hgb _, rd_far hr6 (by show g < gl; omega) _⟩
        have ds0 : (sw == 0) = false := by simpa using hs0
        by_cases hs1 : sw = 1
        · subst hs1
          go_wp2_with (at_builtin; refine wpList_append_own _ rfl (.tmp 58) (.tmp 63) 23 rfl w.heap.size 50 i0 _ 2 24 Try.underlying23 hi0 hz0 hz1 hz2 rfl (by decide) (.slice (some ⟨gl, 0, none⟩) k c) k _ rfl (own5.row.alloc _) ⟨w5.heap.size, 0, none⟩ 1 1 [.string t0, .int .i64 m0] rfl rfl (World.news_of_block (cs := #[.string t0, .int .i64 m0]) (heap_alloc_new w5 _)) (by simp [Value.oneCell']) (by unfold maxLen; omega) (by omega) (by simp; omega) ?_; intro v6 w6 hown6 hg6 hv6; obtain ⟨g6, c6, rfl, hc6, hg6b⟩ := own_form hown6 (fun e => by have := hv6.1 e; cases this.1); clear hv6)
          go_ret
          exact ⟨g6, k + 1, c6, ps ++ [(t0, m0)], rfl, hc6, by omega, papp_sizes hsz.out ht0.out _, by unfold OwnP; rw [pcells_append]; exact hown6, only_new (only_alloc O5 _) hg6 (fun y hy => (own5.row.lt y hy).1), (rd_own (hr5.alloc _) hg6 (fun y hy => by have := (own5.row.lt y hy).1; omega)).mono (by omega)⟩
        have ds1 : (sw == 1) = false := by simpa using hs1
        by_cases hs2 : sw = 2
        · subst hs2
          go_wp2_with fail
          refine (of_some g (b + 2 + 13 * j + 2) w5.heap.size 0 3 3 2 _ (hr5.alloc _) (by omega) (by omega) (by omega) (by omega) (fun q hq => ?_)).mono ?_
          · rcases (show q = 0 ∨ q = 1 ∨ q = 2 by omega) with rfl | rfl | rfl
            all_goals exact ⟨_, by simp [go_sem]; rfl, by decide⟩
          rintro e w6 ⟨t6, rfl, ht6, hg6, hr6⟩
          have hs6 := hg6.size
          simp at hs6
          have O6 : w.grownBy w6 (some g) := only_trans (only_alloc O5 _) hg6
          have own6 : OwnP w6 w.heap.size (.slice (some ⟨gl, 0, none⟩) k c) k ps := OwnP.only (own5.row.alloc _) hg6 hlt
          have hd1' : w6.cell? ⟨gl, en * 2, none⟩ = some (.string t0) := hg6.cell ((World.cell?_alloc_lt w5 _ _ hgl).trans hd1) (by simp; omega)
          have hf1' : w6.frozen? ⟨gl, en * 2, none⟩ = false := own6.row.frozenAt _
          clear hg6 own5 hd1 hd2 hf1 hf2 hr5 O5
          go_wp2_with fail
          go_ret
          exact ⟨gl, k, c, _, rfl, hkc, by omega, pset_sizes hsz.out (by omega) en _, own_pset1 own6 Hlq.out Hp0.out _, only_set_new O6 hgb _, rd_far hr6 (by show g < gl; omega) _⟩
        have ds2 : (sw == 2) = false := by simpa using hs2
        go_wp2_with fail
        go_ret
        exact ⟨gl, k, c, ps, rfl, hkc, by omega, hsz.out, own5, O5, hr5.mono (by omega)⟩
  · have dx : (x == 0) = false := by simpa using hx
    go_wp2_with fail
    go_loopw [5, 7] (fun v i wr => ∃ j : Nat, j ≤ 40 ∧ i = .int .i64 j ∧ (∃ gl k c ps, v = .slice (some ⟨gl, 0, none⟩) k c ∧ k ≤ c ∧ k ≤ j ∧ Hid (∀ p ∈ ps, p.1.size ≤ 1048576) ∧ OwnP wr w.heap.size (.slice (some ⟨gl, 0, none⟩) k c) k ps) ∧ w.grownBy wr (some g) ∧ RdLe wr g (b + 2 + 13 * j)) (fun _ i _ => 40 - (intOf i).toNat)
    case atStart => exact ⟨0, by omega, rfl, ⟨_, 0, 0, [], rfl, Nat.le_refl _, Nat.le_refl _, (fun p hp => by cases hp), own2⟩, O2, hr2.mono (by omega)⟩
    case round =>
      obtain ⟨j, hj, rfl, ⟨gl, k, c, ps, rfl, hkc, hkj, hsz, hown⟩, hO, hr⟩ := hrel
      clear own2 O2 hr2
      by_cases hjM : (j : Int) < q
      · go_wp2_with fail
        refine (l91Ballot_some g (b + 2 + 13 * j) n _ hr (by omega) hn0 hn1).mono ?_
        rintro e w3 ⟨A3, n3, c3, zs, rfl, hc3, hn3, own3, hg3, hr3⟩
        have O3 := only_trans hO hg3
        have ownp3 := OwnP.only hown hg3 hlt
        clear hown hg3 hO hr
        go_wp2_with fail
        refine (sBallotText_some A3 n3 c3 zs _ _ own3.ints (by omega) hc3).mono ?_
        rintro e w4 ⟨t, rfl, ht, hd4⟩
        have hb4 := hd4.below w3.heap.size
        have O4 := only_keep O3 hb4
        have ownp4 := ownp3.keep hb4
        have hr4 := hr3.keep hb4
        clear ownp3 O3 hr3 hd4 hb4 own3
        go_wp2_with fail
        refine (pick_b g (b + 2 + 13 * j + 12) 9 _ hr4 (by omega)).mono ?_
        rintro e w5 ⟨y, rfl, hy0, hy1, -, hg5, hr5⟩
        have hy := hy1 (by omega)
        have O5 := only_trans O4 hg5
        have ownp5 := OwnP.only ownp4 hg5 hlt
        clear ownp4 O4 hr4 hg5 hy1
        have hs5 := O5.size
        go_wp2_with fail
        refine (sPilesAdd_some gl k c ps t (1 + y) _ (ownp5.piles.fine hsz.out) (by omega) hkc (by omega)).mono ?_
        rintro e w6 ⟨A6, n6, c6, ok, rfl, hok, hb6⟩
        have O6 := only_keep O5 hb6
        have ownp6 := ownp5.keep hb6
        have hr6 := hr5.keep hb6
        cases ok
        · clear hok
          go_wp2_with fail
          go_roundw
          case rel => exact ⟨j + 1, by omega, by go_num, ⟨gl, k, c, ps, rfl, hkc, by omega, hsz, ownp6⟩, O6, hr6.mono (by omega)⟩
          case measure => simp [intOf]; omega
        · obtain ⟨g6, ps6, rfl, hnc6, hn6, hsz6, own6⟩ := hok rfl
          have Hsz6 := Lib.hid hsz6
          clear hok hsz6
          go_wp2_with fail
          go_roundw
          case rel => exact ⟨j + 1, by omega, by go_num, ⟨g6, n6, c6, ps6, rfl, hnc6, by omega, Hsz6, own6.base hs5⟩, O6, hr6.mono (by omega)⟩
          case measure => simp [intOf]; omega
      · have hj40 : j ≤ 40 := hj
        by_cases hk0 : k = 0
        · subst hk0
          go_wp2_with fail
          go_ret
          exact ⟨gl, 0, c, ps, rfl, hkc, by omega, hsz.out, hown, hO, hr.mono (by omega)⟩
        have hk00 : (0 : Int) < (k : Int) := by omega
        go_wp2_with fail
        refine (pick_b g (b + 2 + 13 * j) k _ hr (by omega)).mono ?_
        rintro e w4 ⟨e0, rfl, he0, he1, -, hg4, hr4⟩
        have hek := he1 (by omega)
        clear he1
        obtain ⟨en, rfl⟩ := Int.eq_ofNat_of_zero_le he0
        have hen : en < k := by omega
        have O4 := only_trans hO hg4
        have own4 := OwnP.only hown hg4 hlt
        clear hown hg4 hO hr
        go_wp2_with fail
        refine (pick_b g (b + 2 + 13 * j + 1) 30 _ hr4 (by omega)).mono ?_
        rintro e w5 ⟨sw, rfl, hsw0, -, -, hg5, hr5⟩
        have O5 := only_trans O4 hg5
        have own5 := OwnP.only own4 hg5 hlt
        clear own4 hg5 O4 hr4
        have hs5 := O5.size
        have hlq : en < ps.length := by rw [own5.len]; exact hen
        have hgl := (own5.row.lt gl rfl).2
        have hgb := (own5.row.lt gl rfl).1
        obtain ⟨t0, m0, hp0⟩ : ∃ t0 m0, ps.getD en default = (t0, m0) := ⟨_, _, rfl⟩
        have hd1 : w5.cell? ⟨gl, en * 2, none⟩ = some (.string t0) := by
          have e := (pcells_at ps en hlq).1
          rw [hp0] at e
          exact (own5.row.cellAt (en * 2) (by omega)).trans e
        have hd2 : w5.cell? ⟨gl, en * 2 + 1, none⟩ = some (.int .i64 m0) := by
          have e := (pcells_at ps en hlq).2
          rw [hp0] at e
          exact (own5.row.cellAt (en * 2 + 1) (by omega)).trans e
        have hf1 : w5.frozen? ⟨gl, en * 2, none⟩ = false := own5.row.frozenAt _
        have hf2 : w5.frozen? ⟨gl, en * 2 + 1, none⟩ = false := own5.row.frozenAt _
        have ht0 : Hid (t0.size ≤ 1048576) := by
          have e : ps.getD en default = ps[en] := by simp [List.getD, hlq]
          have := hsz.out ps[en] (List.getElem_mem hlq)
          rw [← e, hp0] at this
          exact this
        have Hlq := Lib.hid hlq
        have Hp0 := Lib.hid hp0
        clear hlq hp0
        by_cases hs0 : sw = 0
        · subst hs0
          go_wp2_with fail
          refine (pick_b g (b + 2 + 13 * j + 2) 3 _ (hr5.alloc _) (by omega)).mono ?_
          rintro e w6 ⟨y, rfl, hy0, hy1, -, hg6, hr6⟩
          have hy := hy1 (by omega)
          have hs6 := hg6.size
          simp at hs6
          have O6 : w.grownBy w6 (some g) := only_trans (only_alloc O5 _) hg6
          have own6 : OwnP w6 w.heap.size (.slice (some ⟨gl, 0, none⟩) k c) k ps := OwnP.only (own5.row.alloc _) hg6 hlt
          have hx0 : w6.cell? ⟨w5.heap.size, 0, none⟩ = some (.int .i64 0) := hg6.cell (by simp [go_sem]) (by simp; omega)
          have hx1 : w6.cell? ⟨w5.heap.size, 1, none⟩ = some (.int .i64 99) := hg6.cell (by simp [go_sem]) (by simp; omega)
          have hx2 : w6.cell? ⟨w5.heap.size, 2, none⟩ = some (.int .i64 100) := hg6.cell (by simp [go_sem]) (by simp; omega)
          have hd2' : w6.cell? ⟨gl, en * 2 + 1, none⟩ = some (.int .i64 m0) := hg6.cell ((World.cell?_alloc_lt w5 _ _ hgl).trans hd2) (by simp; omega)
          have hf2' : w6.frozen? ⟨gl, en * 2 + 1, none⟩ = false := own6.row.frozenAt _
          clear hg6 own5 hd1 hd2 hf1 hf2 hr5 O5 hy1
          rcases (show y = 0 ∨ y = 1 ∨ y = 2 by omega) with rfl | rfl | rfl
          all_goals
            go_wp2_with fail
            go_ret
            exact ⟨gl, k, c, _, rfl, hkc, by omega, pset_sizes hsz.out ht0.out en _, own_pset2 own6 Hlq.out Hp0.out _, only_set_new O6 hgb _, rd_far hr6 (by show g < gl; omega) _⟩
        have ds0 : (sw == 0) = false := by simpa using hs0
        by_cases hs1 : sw = 1
        · subst hs1
          go_wp2_with (at_builtin; refine wpList_append_own _ rfl (.tmp 58) (.tmp 63) 23 rfl w.heap.size 50 i0 _ 2 24 Try.underlying23 hi0 hz0 hz1 hz2 rfl (by decide) (.slice (some ⟨gl, 0, none⟩) k c) k _ rfl (own5.row.alloc _) ⟨w5.heap.size, 0, none⟩ 1 1 [.string t0, .int .i64 m0] rfl rfl (World.news_of_block (cs := #[.string t0, .int .i64 m0]) (heap_alloc_new w5 _)) (by simp [Value.oneCell']) (by unfold maxLen; omega) (by omega) (by simp; omega) ?_; intro v6 w6 hown6 hg6 hv6; obtain ⟨g6, c6, rfl, hc6, hg6b⟩ := own_form hown6 (fun e => by have := hv6.1 e; cases this.1); clear hv6)
          go_ret
          exact ⟨g6, k + 1, c6, ps ++ [(t0, m0)], rfl, hc6, by omega, papp_sizes hsz.out ht0.out _, by unfold OwnP; rw [pcells_append]; exact hown6, only_new (only_alloc O5 _) hg6 (fun y hy => (own5.row.lt y hy).1), (rd_own (hr5.alloc _) hg6 (fun y hy => by have := (own5.row.lt y hy).1; omega)).mono (by omega)⟩
        have ds1 : (sw == 1) = false := by simpa using hs1
        by_cases hs2 : sw = 2
        · subst hs2
          go_wp2_with fail
          refine (of_some g (b + 2 + 13 * j + 2) w5.heap.size 0 3 3 2 _ (hr5.alloc _) (by omega) (by omega) (by omega) (by omega) (fun q hq => ?_)).mono ?_
          · rcases (show q = 0 ∨ q = 1 ∨ q = 2 by omega) with rfl | rfl | rfl
            all_goals exact ⟨_, by simp [go_sem]; rfl, by decide⟩
          rintro e w6 ⟨t6, rfl, ht6, hg6, hr6⟩
          have hs6 := hg6.size
          simp at hs6
          have O6 : w.grownBy w6 (some g) := only_trans (only_alloc O5 _) hg6
          have own6 : OwnP w6 w.heap.size (.slice (some ⟨gl, 0, none⟩) k c) k ps := OwnP.only (own5.row.alloc _) hg6 hlt
          have hd1' : w6.cell? ⟨gl, en * 2, none⟩ = some (.string t0) := hg6.cell ((World.cell?_alloc_lt w5 _ _ hgl).trans hd1) (by simp; omega)
          have hf1' : w6.frozen? ⟨gl, en * 2, none⟩ = false := own6.row.frozenAt _
          clear hg6 own5 hd1 hd2 hf1 hf2 hr5 O5
          go_wp2_with fail
          go_ret
          exact ⟨gl, k, c, _, rfl, hkc, by omega, pset_sizes hsz.out (by omega) en _, own_pset1 own6 Hlq.out Hp0.out _, only_set_new O6 hgb _, rd_far hr6 (by show g < gl; omega) _⟩
        have ds2 : (sw == 2) = false := by simpa using hs2
        go_wp2_with fail
        go_ret
        exact ⟨gl, k, c, ps, rfl, hkc, by omega, hsz.out, own5, O5, hr5.mono (by omega)⟩

/-- drawn piles, and drawn truths -/
def DrawnPT (w : World) (e : Ending) (w' : World) : Prop :=
  ∃ (g n c : Nat) (A : Option Addr) (m c' : Nat) (ps : List (ByteArray × Int)) (zs : List Bool), e = .returned (.tuple #[.slice (some ⟨g, 0, none⟩) n c, .slice A m c']) ∧ n ≤ c ∧ n ≤ 100 ∧ m ≤ c' ∧ m ≤ 1000 ∧
    Piles w' w'.heap.size (some ⟨g, 0, none⟩) n ps ∧ Bools w' w'.heap.size A m zs ∧ Below w.heap.size w w'
theorem drawn_below {w a b : World} {g : Nat} (h : Below w.heap.size w a) (k : a.grownBy b (some g)) (hg : w.heap.size ≤ g) : Below w.heap.size w b := h.grown k h.size (fun x hx => by cases hx; exact hg)
end Go.Proofs.Ytdcfpobjiofnmaa
