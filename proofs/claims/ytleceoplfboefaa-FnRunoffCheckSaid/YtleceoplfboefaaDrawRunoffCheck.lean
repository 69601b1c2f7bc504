/-
  The walk of DrawRunoffCheck: piles, lots and rounds, of which one number may have been turned.
-/
import Derived.Test.YtleceoplfboefaaDrawLots
import Derived.Test.YtleceoplfboefaaLawRoundTab
import Derived.Test.YtleceoplfboefaaRoundsS
import Derived.Deep.RegionLaw
namespace Go.Proofs.Ytleceoplfboefaa
set_option linter.unusedVariables false
open Go.RowKit

theorem own_apart {w w' : World} {base y : Nat} {e : TypeId} {sz : Nat} {v : Value} {n : Nat} {xs : List Value} (h : w.ownsRow base e sz v n xs) (hg : w.grownBy w' (some y)) (hn : v.ownBlock ≠ some y) : w'.ownsRow base e sz v n xs :=
  h.kept hg (by
    rcases h.2 with ⟨e, _⟩ | ⟨g, cap, cur, e, _⟩
    · exact .inl (by rw [e]; rfl)
    · exact .inr hn)
theorem OwnRd.far {w w' : World} {bs y n : Nat} {v : Value} {rs : List Bp.Rnd} (h : OwnRd w bs [] v n rs) (hg : w.grownBy w' (some y)) (hy : y < bs) : OwnRd w' bs [] v n rs :=
  h.within (lo := y) (hi := bs) (Nat.le_refl _) ⟨some y, hg, fun g e => by injection e with e; subst e; exact ⟨Nat.le_refl _, hy⟩⟩
/-- the counts of one round have been written -/
theorem OwnRd.cnt {w : World} {bs n g c : Nat} {rs : List Bp.Rnd} (h : OwnRd w bs [] (.slice (some ⟨g, 0, none⟩) n c) n rs) {x m : Nat} (hx : x < n) (hm : (rs.getD x default).1.length = m) :
    ∃ gx cx, w.cell? ⟨g, x * 2, none⟩ = some (.slice (some ⟨gx, 0, none⟩) m cx) ∧ Own w bs (.slice (some ⟨gx, 0, none⟩) m cx) m (rs.getD x default).1 ∧ bs ≤ gx ∧ gx < w.heap.size ∧ bs ≤ g ∧ g < w.heap.size ∧ m ≤ cx ∧ gx ≠ g ∧
      ∀ w' zs, zs.length = m → w.grownBy w' (some gx) → Own w' bs (.slice (some ⟨gx, 0, none⟩) m cx) m zs → OwnRd w' bs [] (.slice (some ⟨g, 0, none⟩) n c) n (rs.set x (zs, (rs.getD x default).2)) := by
  obtain ⟨vs, h1, h2, h3, h4⟩ := h
  have hvl : vs.length = rs.length := by have := h3.len; simpa using this
  have hk' : x < rs.length := by omega
  have hs := h3.sub x (by simpa using hk')
  have e1 : ((rs.map fun r => isub r.1).getD x default) = isub (rs.getD x default).1 := by simp [List.getD, hk']
  rw [e1] at hs
  have hblk := hs.block
  obtain ⟨hs1, gx, cx, hv'⟩ := hs
  rw [hv'] at hs1 hblk
  obtain ⟨_, e3, hb1, hb2⟩ := hblk
  have e4 : gx = _ := Option.some.inj e3
  subst e4
  have e2 : (isub (rs.getD x default).1).1 = m := hm
  rw [e2] at hs1 hv'
  obtain ⟨c1, c2⟩ := rcells_at vs (rs.map (·.2)) x (by rw [List.length_map]; exact hvl) (by simpa using hk')
  rw [hv'] at c1
  have d1 := h2.cells (g := g) rfl (x * 2) _ c1
  rw [add_zero_off] at d1
  have hgl := h2.lt g rfl
  have hown : Own w bs (.slice (some ⟨gx, 0, none⟩) m cx) m (rs.getD x default).1 := hs1
  have hne : gx ≠ g := by
    have h5 := h3.own x (by simpa using hk')
    rw [hv'] at h5
    intro e
    subst e
    exact h5 rfl
  have hmc : m ≤ cx := by
    rcases hown.2 with ⟨e, _⟩ | ⟨g', cap, cur, e, _, _, hc, _⟩
    · cases e
    · injection e with _ _ e3
      omega
  refine ⟨gx, cx, by simpa using d1, hown, hb1, hb2, hgl.1, hgl.2, hmc, hne, fun w' zs hz hg ho => ?_⟩
  have k2 := h2.kept hg (.inr (fun e => hne (Option.some.inj e).symm))
  have k3 := h3.set (w' := w') (i := x) (xs := zs.map (Value.int .i64)) (by simpa using hk') (by rw [hv']; exact hg) (by
    rw [e1, e2, hv']
    exact ⟨ho, gx, cx, rfl⟩)
  refine ⟨vs, by simp [h1], ?_, ?_, fun y hy => absurd hy (by simp)⟩
  · rw [List.map_set]
    have e5 : (rs.map (·.2)).set x (rs.getD x default).2 = rs.map (·.2) := by
      apply List.ext_getElem (by simp)
      intro j j1 j2
      by_cases e : x = j
      · subst e; simp [List.getD, hk']
      · simp [List.getElem_set_ne e]
    show w'.ownsRow bs 58 2 _ n (rcells vs ((rs.map (·.2)).set x (rs.getD x default).2))
    rw [e5]
    exact k2
  · rw [List.map_set]
    show Subs _ bs 3 1 (some g) vs ((rs.map fun r => isub r.1).set x (isub zs))
    have e6 : isub zs = (m, zs.map (Value.int .i64)) := by
      show (zs.length, _) = _
      rw [hz]
    rw [e1, e2] at k3
    rw [e6]
    exact k3
theorem RoundsV.take {w : World} {B n : Nat} {A : Option Addr} {rs : List Bp.Rnd} (h : RoundsV w B A n rs) {k : Nat} (hk : k ≤ n) : RoundsV w B A k (rs.take k) := ⟨by rw [List.length_take, h.1]; omega, fun hn => by
  obtain ⟨g, o, e, hl, hc⟩ := h.2 (by omega)
  refine ⟨g, o, e, hl, fun j hj => ?_⟩
  have e1 : (rs.take k).getD j default = rs.getD j default := by simp [List.getD, hj]
  rw [e1]
  exact hc j (by omega)⟩
/-- one count of one round has been written, behind some picks -/
theorem OwnRd.cnt_store {w W6 : World} {bs n gr c y : Nat} {rs : List Bp.Rnd} (h : OwnRd w bs [] (.slice (some ⟨gr, 0, none⟩) n c) n rs) (hy : y < bs) (h6 : w.grownBy W6 (some y)) {k m gx cx : Nat} (hk : k < n) (hm : (rs.getD k default).1.length = m)
    (hcx : w.cell? ⟨gr, k * 2, none⟩ = some (.slice (some ⟨gx, 0, none⟩) m cx)) {j : Nat} (v : Int) :
    OwnRd (W6.setCell ⟨gx, j, none⟩ (.int .i64 v)) bs [] (.slice (some ⟨gr, 0, none⟩) n c) n (rs.set k ((rs.getD k default).1.set j v, (rs.getD k default).2)) := by
  have hgr : gr < w.heap.size := lt_of_cell hcx
  obtain ⟨gx2, cx2, hcx2, own2, hb2, hl2, hg2, _, _, hne2, hset2⟩ := (h.far h6 hy).cnt hk hm
  have e : W6.cell? ⟨gr, k * 2, none⟩ = some (.slice (some ⟨gx, 0, none⟩) m cx) := (h6.cell hcx (by simp; omega))
  rw [e] at hcx2
  injection hcx2 with e1
  injection e1 with e2 _ e3
  injection e2 with e2
  injection e2 with e2
  subst e2; subst e3
  have hs := own_only_set own2 j v
  exact hset2 _ _ (by rw [List.length_set]; exact hm) hs.2 hs.1
theorem Bp.row_pos {ps : List Bp.Pile} {lots : List Int} {R : List Bp.Rnd} {k : Nat} (hR : rres (Bp.ok ps lots) (Bp.rounds ps lots) = R) (hk : k < R.length) : 1 ≤ (R.getD k default).1.length := by
  cases hok : Bp.ok ps lots
  · rw [hok, rres_no rfl] at hR
    rw [← hR] at hk
    simp at hk
  · rw [hok, rres_yes rfl] at hR
    have hl := Bp.ok_lval hok
    obtain ⟨_, _, h3⟩ := Bp.rounds_ok ps lots hl
    have hn := Bp.lval_n hl
    rw [hR] at h3
    rw [(h3 k hk).counts, Bp.firsts_len, Bp.leftAfter_len]
    simp
    omega
/-- rounds of few counts -/
def RSmall (rs : List Bp.Rnd) : Prop := ∀ k, (rs.getD k default).1.length ≤ 1048576
theorem RSmall.set {rs : List Bp.Rnd} (h : RSmall rs) {x : Nat} {zs : List Int} {o : Int} (hz : zs.length ≤ 1048576) : RSmall (rs.set x (zs, o)) := fun k => by
  by_cases e : x = k
  · subst e
    by_cases hx : x < rs.length
    · simpa [List.getD, hx] using hz
    · have e : (rs.set x (zs, o)).getD x default = default := by unfold List.getD; rw [List.getElem?_eq_none (by simp; omega)]; rfl
      rw [e]; exact Nat.zero_le _
  · have e1 : (rs.set x (zs, o)).getD k default = rs.getD k default := by simp [List.getD, List.getElem?_set_ne e]
    rw [e1]; exact h k
theorem RSmall.take {rs : List Bp.Rnd} (h : RSmall rs) (x : Nat) : RSmall (rs.take x) := fun k => by
  by_cases e : k < x
  · have e1 : (rs.take x).getD k default = rs.getD k default := by simp [List.getD, e]
    rw [e1]; exact h k
  · have e1 : (rs.take x).getD k default = default := by unfold List.getD; rw [List.getElem?_eq_none (by simp; omega)]; rfl
    rw [e1]; exact Nat.zero_le _
/-- what a draw of piles, lots and rounds leaves -/
def DrawnCheck (w : World) (e : Ending) (w' : World) : Prop :=
  ∃ (g1 n c : Nat) (A : Option Addr) (m c' : Nat) (A2 : Option Addr) (n2 c2 : Nat) (ps : List (ByteArray × Int)) (zs : List Int) (rs : List Bp.Rnd), e = .returned (.tuple #[.slice (some ⟨g1, 0, none⟩) n c, .slice A m c', .slice A2 n2 c2]) ∧ n ≤ c ∧ n ≤ 100 ∧ m ≤ c' ∧ m ≤ 10 ∧ n2 ≤ 5 ∧
    Piles w' w'.heap.size (some ⟨g1, 0, none⟩) n ps ∧ Ints w' w'.heap.size A m zs ∧ RoundsV w' w'.heap.size A2 n2 rs ∧ RSmall rs ∧ Below w.heap.size w w'
set_option maxRecDepth 100000 in
set_option maxHeartbeats 4000000 in
theorem drawRunoffCheck_some (A : Option Addr) (n c : Nat) (w : World) (h : Bytes w w.heap.size A n) (hn : n ≤ 9223372036854775807) (hc : n ≤ c) :
    Calls Try.prog 22 #[.slice A n c] w (DrawnCheck w) := by
  go_enter Try.func22, Try.ntmps22
  go_wp2_with fail
  refine (l6Open_any A n c _ h hn hc).mono ?_
  rintro e w1 ⟨g, rfl, hg, hgl, hr1, hb1⟩
  go_wp2_with fail
  refine (l91Contest_some g 0 _ ⟨0, Nat.le_refl _, hr1⟩ (by omega)).mono ?_
  rintro e w2 ⟨g1, n1, c1, A1, m1, c2, ps, zs, rfl, hc1, hn1, hc2, hm1, hsz, ownp, own, hg2, hr2⟩
  have hs2 := hg2.size
  have hB2 := drawn_below hb1 hg2 hg
  have hl1 := fun y e => (ownp.row.lt y e).2
  have hl2 := fun y e => (own.row.lt y e).2
  have Hl1 := Lib.hid hl1
  have Hl2 := Lib.hid hl2
  have Hsz := Lib.hid hsz
  clear hl1 hl2 hsz hr1 hb1 hg2
  go_wp2_with fail
  refine (sRunoffRounds_any (some ⟨g1, 0, none⟩) n1 c1 A1 m1 c2 ps zs _ (ownp.piles.fine Hsz.out) (by omega) own.ints (by omega) hc2).mono ?_
  rintro e w3 ⟨A3, n3, c3, rfl, hc3, hn3, ownr, hb3⟩
  have hsm := smallRunoffRounds ps zs
  obtain ⟨R, hR⟩ : ∃ R, rres (Bp.ok ps zs) (Bp.rounds ps zs) = R := ⟨_, rfl⟩
  rw [hR] at hsm ownr
  have Hsm : Hid (RSmall R) := fun k => Nat.le_trans (hsm k) (by omega)
  have Hlen0 := Lib.hid hsm
  have hs3 := hb3.size
  have hB3 := hB2.trans (hb3.mono (by omega))
  have ownp3 := ownp.keep hb3
  have own3 := own.keep hb3
  have hr3 := hr2.keep hb3
  have hg2 : g < w2.heap.size := by omega
  have hW2 : w.heap.size ≤ w2.heap.size := by omega
  have HR := Lib.hid hR
  have HRl := Lib.hid ownr.len
  clear hR hsm ownp own hr2 hb3 hB2
  by_cases hn0 : n3 = 0
  · subst hn0
    go_wp2_with fail
    go_ret3
    exact ⟨g1, n1, c1, A1, m1, c2, A3, 0, c3, ps, zs, R, rfl, hc1, hn1, hc2, hm1, by omega, ownp3.piles.fine Hsz.out, own3.ints, ownr.view, Hsm.out, hB3⟩
  · obtain ⟨gr, hA3, hgr⟩ : ∃ y, A3 = some ⟨y, 0, none⟩ ∧ w2.heap.size ≤ y := by
      obtain ⟨vs, _, h2, _⟩ := ownr
      rcases h2.2 with ⟨_, e⟩ | ⟨y, cap, cur, hv, hby, _⟩
      · omega
      · injection hv with hA _ _
        exact ⟨y, hA, hby⟩
    subst hA3
    have hn0' : (0 : Int) < (n3 : Int) := by omega
    clear hn0
    go_wp2_with fail
    refine (pick_b g 1100 n3 _ (hr3.mono (by omega)) (by omega)).mono ?_
    rintro e w4 ⟨ki, rfl, hk0, hk1, -, hg4, hr4⟩
    have hk1 := hk1 (by omega)
    obtain ⟨k, rfl⟩ := Int.eq_ofNat_of_zero_le hk0
    have hkn : k < n3 := by omega
    have hs4 := hg4.size
    have ownp4 := OwnP.only ownp3 hg4 hgl
    have own4 := own3.only hg4 hgl
    have ownr4 := ownr.far hg4 hg2
    have hB4 := hB3.trans (below_only hg4 hg (by omega))
    clear ownp3 own3 ownr hg4 hr3 hB3
    go_wp2_with fail
    refine (pick_b g 1101 8 _ hr4 (by omega)).mono ?_
    rintro e w5 ⟨x, rfl, hx0, hx1, -, hg5, hr5⟩
    have hs5 := hg5.size
    have ownp5 := OwnP.only ownp4 hg5 hgl
    have own5 := own4.only hg5 hgl
    have ownr5 := ownr4.far hg5 hg2
    have hB5 := hB4.trans (below_only hg5 hg (by omega))
    clear ownp4 own4 ownr4 hg5 hr4 hB4 hx1
    by_cases hx : x = 0
    · subst hx
      go_wp2_with fail
      refine (pick_b g 1102 6 _ hr5 (by omega)).mono ?_
      rintro e w6 ⟨q, rfl, hq0, hq1, -, hg6, hr6⟩
      have hq1 := hq1 (by omega)
      have hs6 := hg6.size
      have ownp6 := OwnP.only ownp5 hg6 hgl
      have own6 := own5.only hg6 hgl
      have ownr6 := ownr5.far hg6 hg2
      have hB6 := hB5.trans (below_only hg6 hg (by omega))
      have hlk := Lib.hid (Nat.le_trans (Hlen0.out k) (show 1024 ≤ 1048576 by omega))
      obtain ⟨gx, cx, hcx, ownx, hbx, hlx, hbg, hgl', hmc, hne, hco, hfo, hset⟩ := ownr6.row hkn rfl
      have hnew := hset w6 _ (q - 1) rfl (World.grownBy.refl _ _) ownx
      have hst : w6.grownBy (w6.setCell ⟨gr, k * 2 + 1, none⟩ (.int .i64 (q - 1))) (some gr) := only_setCell (World.grownBy.refl _ _) (.inl rfl) _
      have np : Hid (OwnP (w6.setCell ⟨gr, k * 2 + 1, none⟩ (.int .i64 (q - 1))) w1.heap.size (.slice (some ⟨g1, 0, none⟩) n1 c1) n1 ps) := own_apart ownp6 hst (fun e => by have := Hl1.out _ e; omega)
      have nl : Hid (Own (w6.setCell ⟨gr, k * 2 + 1, none⟩ (.int .i64 (q - 1))) w1.heap.size (.slice A1 m1 c2) m1 zs) := own_apart own6.row hst (fun e => by have := Hl2.out _ e; omega)
      have Hnew := Lib.hid hnew
      have HB := Lib.hid (hB6.setCell (p := ⟨gr, k * 2 + 1, none⟩) (show w.heap.size ≤ gr by omega) (.int .i64 (q - 1)))
      obtain ⟨u, hu⟩ : ∃ u, (R.getD k default).2 = u := ⟨_, rfl⟩
      rw [hu] at hco
      clear hset hnew hst ownx ownr6 ownp6 own6 ownr5 ownp5 own5 hg6 hr5 hr6 hB6 hB5 hu
      go_wp2_with fail
      go_ret3
      exact ⟨g1, n1, c1, A1, m1, c2, _, n3, c3, ps, zs, _, rfl, hc1, hn1, hc2, hm1, hn3, OwnP.piles np.out |>.fine Hsz.out, nl.out.ints, Hnew.out.view, Hsm.out.set hlk.out, HB.out⟩
    · have d0 : (x == 0) = false := by simpa using hx
      have hm1' := hm1
      clear hm1
      by_cases hx1 : x = 1
      · subst hx1
        have hrp := Bp.row_pos HR.out (show k < R.length by rw [HRl.out]; exact hkn)
        have hlk := Hlen0.out k
        obtain ⟨gx, cx, hcx, ownx0, hbx, hlx, hbg, hgl', hmc, hne, -⟩ := ownr5.cnt hkn rfl
        obtain ⟨m, hm⟩ : ∃ m, (R.getD k default).1.length = m := ⟨_, rfl⟩
        rw [hm] at hcx ownx0 hmc hlk hrp
        have Hm := Lib.hid hm
        have ownx := Lib.hid ownx0
        have Hcx := Lib.hid hcx
        have O5 : w5.grownBy w5 (some g) := World.grownBy.refl _ _
        have ng1 : ¬ gr = g := by omega
        have ng2 : ¬ g = gr := by omega
        have ng3 : ¬ gx = g := by omega
        have ng4 : ¬ g = gx := by omega
        have hm1 : (1 : Int) ≤ (m : Int) := by omega
        clear hm ownx0
        have fin : ∀ (W6 : World) (j : Nat) (v : Int), w5.grownBy W6 (some g) → Hid (DrawnCheck w (.returned (.tuple #[.slice (some ⟨g1, 0, none⟩) n1 c1, .slice A1 m1 c2, .slice (some ⟨gr, 0, none⟩) n3 c3])) (W6.setCell ⟨gx, j, none⟩ (.int .i64 v))) := fun W6 j v h6 => by
          have hst : W6.grownBy (W6.setCell ⟨gx, j, none⟩ (.int .i64 v)) (some gx) := only_setCell (World.grownBy.refl _ _) (.inl rfl) _
          have np : OwnP (W6.setCell ⟨gx, j, none⟩ (.int .i64 v)) w1.heap.size (.slice (some ⟨g1, 0, none⟩) n1 c1) n1 ps := own_apart (OwnP.only ownp5 h6 hgl) hst (fun e => by have := Hl1.out _ e; omega)
          have nl : Own (W6.setCell ⟨gx, j, none⟩ (.int .i64 v)) w1.heap.size (.slice A1 m1 c2) m1 zs := own_apart (own5.only h6 hgl).row hst (fun e => by have := Hl2.out _ e; omega)
          have nr := ownr5.cnt_store hg2 h6 hkn Hm.out Hcx.out (j := j) v
          exact ⟨g1, n1, c1, A1, m1, c2, _, n3, c3, ps, zs, _, rfl, hc1, hn1, hc2, hm1', hn3, np.piles.fine Hsz.out, nl.ints, nr.view, Hsm.out.set (by rw [List.length_set, Hm.out]; omega), (hB5.trans (below_only h6 hg (by omega))).setCell (p := ⟨gx, j, none⟩) (show w.heap.size ≤ gx by omega) _⟩
        have Fin := Lib.hid fin
        clear fin
        go_wp2_with fail
        go_region_law (first
            | ((go_simp
                go_at_call 45
                (with_reducible refine (pick_le g 1102 m _ ?_ ?_).mono ?_)
                · repeat (first | (with_reducible exact (hr5.mono (by omega))) | (with_reducible refine RdLe.drewN ?_ _) | (with_reducible refine RdLe.drew ?_) | (with_reducible refine RdLe.set (b := 1103) ?_ _ (by assumption) (by omega)))
                · omega
                rintro e wx ⟨kx, qx, nx, rfl, hkx0, hkx1, -, hqx0, hqx1, rfl⟩
                have hkx := hkx1 (by omega)
                clear hkx1
                obtain ⟨j, rfl⟩ := Int.eq_ofNat_of_zero_le hkx0
                have hj : j < m := by omega
                obtain ⟨cj, fj⟩ := own_cell ownx.out j hj))
            | ((go_simp
                go_at_call 45
                (with_reducible refine (pick_le g 1104 20 _ ?_ ?_).mono ?_)
                · repeat (first | (with_reducible exact (hr5.mono (by omega))) | (with_reducible refine RdLe.drewN ?_ _) | (with_reducible refine RdLe.drew ?_) | (with_reducible refine RdLe.set (b := 1103) ?_ _ (by assumption) (by omega)))
                · omega
                rintro e wx ⟨kx, qx, nx, rfl, hkx0, hkx1, -, hqx0, hqx1, rfl⟩
                have hkx := hkx1 (by omega)
                clear hkx1))
            | ((go_simp
                go_at_call 45
                (with_reducible refine (pick_le g 1102 20 _ ?_ ?_).mono ?_)
                · repeat (first | (with_reducible exact (hr5.mono (by omega))) | (with_reducible refine RdLe.drewN ?_ _) | (with_reducible refine RdLe.drew ?_) | (with_reducible refine RdLe.set (b := 1103) ?_ _ (by assumption) (by omega)))
                · omega
                rintro e wx ⟨kx, qx, nx, rfl, hkx0, hkx1, -, hqx0, hqx1, rfl⟩
                have hkx := hkx1 (by omega)
                clear hkx1))
            | ((go_simp
                go_at_call 45
                (with_reducible refine (pick_le g 1104 m _ ?_ ?_).mono ?_)
                · repeat (first | (with_reducible exact (hr5.mono (by omega))) | (with_reducible refine RdLe.drewN ?_ _) | (with_reducible refine RdLe.drew ?_) | (with_reducible refine RdLe.set (b := 1103) ?_ _ (by assumption) (by omega)))
                · omega
                rintro e wx ⟨kx, qx, nx, rfl, hkx0, hkx1, -, hqx0, hqx1, rfl⟩
                have hkx := hkx1 (by omega)
                clear hkx1
                obtain ⟨j, rfl⟩ := Int.eq_ofNat_of_zero_le hkx0
                have hj : j < m := by omega
                obtain ⟨cj, fj⟩ := own_cell ownx.out j hj))
            | fail)
        all_goals
          go_wp2_with fail
          go_ret3
          exact (Fin.out _ _ _ (by repeat (first | (with_reducible assumption) | (with_reducible refine only_drewN ?_ _) | (with_reducible refine only_drew ?_) | (with_reducible refine only_alloc ?_ _) | (with_reducible refine only_setCell ?_ (by first | exact Or.inl rfl | (refine Or.inr ?_; simp; done) | (refine Or.inr ?_; simp; omega) | (refine Or.inr ?_; omega)) _)))).out
      · have d1 : (x == 1) = false := by simpa using hx1
        by_cases hx2 : x = 2
        · subst hx2
          go_wp2_with fail
          go_ret3
          exact ⟨g1, n1, c1, A1, m1, c2, _, k, c3, ps, zs, _, rfl, hc1, hn1, hc2, hm1', by omega, ownp5.piles.fine Hsz.out, own5.ints, ownr5.view.take (by omega), Hsm.out.take k, hB5⟩
        · have d2 : (x == 2) = false := by simpa using hx2
          go_wp2_with fail
          go_ret3
          exact ⟨g1, n1, c1, A1, m1, c2, _, n3, c3, ps, zs, R, rfl, hc1, hn1, hc2, hm1', hn3, ownp5.piles.fine Hsz.out, own5.ints, ownr5.view, Hsm.out, hB5⟩
end Go.Proofs.Ytleceoplfboefaa
