/-
  The walk of the program's PilesTurn: two candidates exchanged on all ballots.
-/
import Derived.Test.YtdcfpobjiofnmaaPilesAdd
import Derived.Test.YtdcfpobjiofnmaaBallotText
namespace Go.Proofs.Ytdcfpobjiofnmaa
set_option linter.unusedVariables false
open Go.RowKit

namespace Bp
/-- two candidates exchanged -/
def sw (x y c : Int) : Int := if c = x then y else if c = y then x else c
theorem sw_range {x y c n : Int} (hx : 0 ≤ x ∧ x < n) (hy : 0 ≤ y ∧ y < n) (hc : 0 ≤ c ∧ c < n) : 0 ≤ sw x y c ∧ sw x y c < n := by
  unfold sw
  split
  · omega
  · split <;> omega
theorem sw_sw (x y c : Int) : sw x y (sw x y c) = c := by
  unfold sw
  by_cases h1 : c = x
  · subst h1
    rw [if_pos rfl]
    by_cases h2 : y = c
    · rw [if_pos h2]; exact h2
    · rw [if_neg h2, if_pos rfl]
  · rw [if_neg h1]
    by_cases h2 : c = y
    · subst h2; rw [if_pos rfl, if_pos rfl]
    · rw [if_neg h2, if_neg h1, if_neg h2]
theorem sw_inj {x y a b : Int} (h : sw x y a = sw x y b) : a = b := by
  have := congrArg (sw x y) h
  rwa [sw_sw, sw_sw] at this
theorem sw_bval {x y n : Int} {b : List Int} (hx : 0 ≤ x ∧ x < n) (hy : 0 ≤ y ∧ y < n) (h : bval b n = true) : bval (b.map (sw x y)) n = true := by
  obtain ⟨h1, h2, h3⟩ := (bval_iff _ _).1 h
  refine (bval_iff _ _).2 ⟨h1, fun c hc => ?_, ?_⟩
  · obtain ⟨d, hd, rfl⟩ := List.mem_map.1 hc
    exact sw_range hx hy (h2 d hd)
  · exact List.pairwise_map.2 (h3.imp fun {a b} hne e => hne (sw_inj e))
/-- a pile after two candidates were exchanged -/
def tp (x y : Int) (p : Pile) : Pile := (btext ((bal p.1).map (sw x y)), p.2)
/-- a ballot of which the first j places have been changed -/
def swTo (x y : Int) (b : List Int) (j : Nat) : List Int := (b.take j).map (sw x y) ++ b.drop j
theorem swTo_len (x y : Int) (b : List Int) (j : Nat) : (swTo x y b j).length = b.length := by simp [swTo]; omega
theorem swTo_at (x y : Int) (b : List Int) {j : Nat} (hj : j < b.length) : (swTo x y b j).getD j 0 = b.getD j 0 := by
  unfold swTo
  simp [List.getD, hj]
  rw [List.getElem?_append_right (by simp; omega)]
  simp [show min j b.length = j by omega, hj]
theorem swTo_step (x y : Int) (b : List Int) {j : Nat} (hj : j < b.length) : (swTo x y b j).set j (sw x y (b.getD j 0)) = swTo x y b (j + 1) := by
  unfold swTo
  have e : ((b.take j).map (sw x y)).length = j := by simp; omega
  rw [List.set_append_right _ _ (Nat.le_of_eq e), e, Nat.sub_self, List.take_succ_eq_append_getElem hj, List.map_append, List.append_assoc, List.drop_eq_getElem_cons hj, getD_get _ _ hj]
  rfl
theorem swTo_skip (x y : Int) (b : List Int) {j : Nat} (hj : j < b.length) (h : sw x y (b.getD j 0) = b.getD j 0) : swTo x y b (j + 1) = swTo x y b j := by
  rw [← swTo_step x y b hj, h, ← swTo_at x y b hj]
  apply List.ext_getElem (by simp)
  intro i h1 h2
  rw [List.getElem_set]
  split
  · next e => subst e; rw [getD_get _ _ h2]
  · rfl
theorem swTo_all (x y : Int) (b : List Int) : swTo x y b b.length = b.map (sw x y) := by simp [swTo]
end Bp
set_option maxRecDepth 100000 in
set_option maxHeartbeats 4000000 in
theorem iPilesTurn_yes (A : Option Addr) (n c : Nat) (ps : List Bp.Pile) (x y : Int) (w : World) (h : Piles w w.heap.size A n ps) (hn : n ≤ 100) (hnc : n ≤ c) (hv : Bp.psval ps = true) (hx0 : 0 ≤ x) (hx1 : x < 5) (hy0 : 0 ≤ y) (hy1 : y < 5) :
    Calls Try.prog 12 #[.slice A n c, .int .i64 x, .int .i64 y] w (MergedRes (ps.map (Bp.tp x y)) w) := by
  have hl := Lib.hid h.1.1
  have Hv := Lib.hid hv
  have g1 : decide (x < 0) = false := by simp; omega
  have g2 : decide (5 ≤ x) = false := by simp; omega
  have g3 : decide (y < 0) = false := by simp; omega
  have g4 : decide (5 ≤ y) = false := by simp; omega
  obtain ⟨i0, hi0, hz0, hz1, hz2⟩ := info_parts pile_row0
  clear hv
  go_enter Try.func12, Try.ntmps12
  go_wp2_with (first
    | (go_at_call 34; refine (iPilesValid_yes A n c ps _ h (by omega) hnc Hv.out).mono ?_; rintro e w1 ⟨rfl, hb1⟩))
  have hs1 := hb1.size
  clear g1 g2 g3 g4
  go_loopw [8, 35] (fun v i wr => ∃ (k : Nat) (A3 : Option Addr) (c3 : Nat), v = .slice A3 k c3 ∧ i = .int .i64 k ∧ k ≤ n ∧ k ≤ c3 ∧ OwnP wr w.heap.size (.slice A3 k c3) k ((ps.map (Bp.tp x y)).take k) ∧ Below w.heap.size w wr) (fun _ i _ => n - (intOf i).toNat)
  case atStart => exact ⟨0, none, 0, rfl, rfl, Nat.zero_le _, Nat.le_refl _, World.ownsRow_nil _ _ _ _, hb1⟩
  case round =>
    obtain ⟨k, A3, c3, rfl, rfl, hk, hkc, hR, hb⟩ := hrel
    have hz := hb.size
    by_cases hlt : k < n
    · obtain ⟨g, o, s, m, rfl, hg, hca, hcb, hss, hp⟩ := (h.below hb).at hlt
      have hkp : k < ps.length := by rw [hl.out]; exact hlt
      have hpv := Bp.psval_at ps Hv.out k hkp
      rw [hp.out] at hpv
      have hbv : Hid (Bp.bval (Bp.bal s) 5 = true) := by
        have h1 := ((Bp.pval_iff _).1 hpv).1
        unfold Hid
        rw [Bp.bal_yes s h1]
        exact h1
      have i3 : (0 : Int) ≤ (k : Int) := by omega
      have i4 : (k : Int) < (n : Int) := by omega
      have i5 : (k : Int) ≤ 100 := by omega
      obtain ⟨b, hbs⟩ : ∃ b, Bp.bal s = b := ⟨_, rfl⟩
      have Hbs := Lib.hid hbs
      rw [hbs] at hbv
      have HR := Lib.hid hR
      clear hpv hR hbs
      obtain ⟨wo, rfl⟩ : ∃ wo : World, wo = wr := ⟨_, rfl⟩
      go_wp2_with (go_at_call 35; refine (ballot_any s m _ hss).mono ?_; rintro e w2 ⟨Ab, nb, cb, rfl, hnb, hownb, hb2⟩)
      rw [Hbs.out] at hownb
      have hs2 : wo.heap.size + 1 ≤ w2.heap.size := by have := hb2.size; simpa using this
      have hownb : Own w2 (wo.heap.size + 1) (.slice Ab nb cb) nb b := hownb.base (by simp)
      have hb2 : Below (wo.heap.size + 1) (wo.alloc (.cells #[.string s, .int .i64 m] 50)) w2 := hb2.mono (by simp)
      have hblen := hownb.len
      have hnb5 : nb ≤ 5 := by have := Bp.bval_len _ _ hbv.out; omega
      have Hblen := Lib.hid hblen
      have hown0 : Own w2 (wo.heap.size + 1) (.slice Ab nb cb) nb (Bp.swTo x y b 0) := by
        have e : Bp.swTo x y b 0 = b := by simp [Bp.swTo]
        rw [e]; exact hownb
      have d1 : w2.cell? ⟨wo.heap.size, 1, none⟩ = some (.int .i64 m) := (hb2.cell (p := ⟨wo.heap.size, 1, none⟩) (by show wo.heap.size < _; omega)).trans (by simp [go_sem])
      have Hd1 := Lib.hid d1
      have hrng : Hid (∀ j, j < nb → 0 ≤ b.getD j 0 ∧ b.getD j 0 < 5) := fun j hj => ((Bp.bval_iff _ _).1 hbv.out).2.1 _ (Bp.getD_mem b j (by omega))
      clear hownb hblen d1
      go_wp2_with fail
      go_loopw [43] (fun i wr => ∃ j : Nat, j ≤ nb ∧ i = .int .i64 j ∧ Own wr (wo.heap.size + 1) (.slice Ab nb cb) nb (Bp.swTo x y b j) ∧ Below (wo.heap.size + 1) w2 wr) (fun i _ => nb - (intOf i).toNat)
      case atStart => exact ⟨0, Nat.zero_le _, rfl, hown0, Below.refl _ _⟩
      case round =>
        obtain ⟨j, hj, rfl, hown, hb3⟩ := hrel
        clear hown0
        have hz3 := hb3.size
        by_cases hjl : j < nb
        · obtain ⟨gb, hAb⟩ : ∃ gb, Ab = some ⟨gb, 0, none⟩ := by
            rcases hown.row.2 with ⟨hv, h0⟩ | ⟨g, cap, cur, hv, _⟩
            · omega
            · injection hv with h1
              exact ⟨g, h1⟩
          subst hAb
          have hgb := (hown.row.lt gb rfl).1
          have hjb : j < b.length := by rw [Hblen.out]; exact hjl
          obtain ⟨hd1, hf1⟩ := own_cell hown j hjl
          rw [Bp.swTo_at x y b hjb] at hd1
          have hzr := hrng.out j hjl
          have hst := fun q => (own_only_set hown j q).1
          have hstep := Bp.swTo_step x y b hjb
          have hskip := Bp.swTo_skip x y b hjb
          obtain ⟨z, hzz⟩ : ∃ z, b.getD j 0 = z := ⟨_, rfl⟩
          rw [hzz] at hd1 hzr hstep hskip
          have j3 : (0 : Int) ≤ (j : Int) := by omega
          have j4 : (j : Int) < (nb : Int) := by omega
          by_cases hzx : z = x
          · have hn := hst y
            have e : Bp.sw x y z = y := by unfold Bp.sw; rw [if_pos hzx]
            rw [e] at hstep
            rw [hstep] at hn
            have Hn := Lib.hid hn
            have hzb : (z == x) = true := by rw [beq_iff_eq]; exact hzx
            clear hn hst hstep hskip hown hzz e hzr hjb hzx
            go_wp2_with fail
            go_roundw
            case rel => exact ⟨j + 1, by omega, by go_num, Hn.out, hb3.setCell hgb _⟩
            case measure => simp [intOf]; omega
          · have hzb : (z == x) = false := by rw [beq_eq_false_iff_ne]; exact hzx
            by_cases hzy : z = y
            · have hn := hst x
              have e : Bp.sw x y z = x := by unfold Bp.sw; rw [if_neg hzx, if_pos hzy]
              rw [e] at hstep
              rw [hstep] at hn
              have Hn := Lib.hid hn
              have hzc : (z == y) = true := by rw [beq_iff_eq]; exact hzy
              clear hn hst hstep hskip hown hzz e hzr hjb hzx hzy
              go_wp2_with fail
              go_roundw
              case rel => exact ⟨j + 1, by omega, by go_num, Hn.out, hb3.setCell hgb _⟩
              case measure => simp [intOf]; omega
            · have e : Bp.sw x y z = z := by unfold Bp.sw; rw [if_neg hzx, if_neg hzy]
              rw [← hskip e] at hown
              have Hn := Lib.hid hown
              have hzc : (z == y) = false := by rw [beq_eq_false_iff_ne]; exact hzy
              clear hst hstep hskip hown hzz e hzr hjb hzx hzy
              go_wp2_with fail
              go_roundw
              case rel => exact ⟨j + 1, by omega, by go_num, Hn.out, hb3⟩
              case measure => simp [intOf]; omega
        · have hje : j = nb := by omega
          have hsa := Bp.swTo_all x y b
          rw [Hblen.out, ← hje] at hsa
          rw [hsa] at hown
          have hbv2 := Lib.hid (Bp.sw_bval (n := 5) ⟨hx0, hx1⟩ ⟨hy0, hy1⟩ hbv.out)
          have HB : Below wo.heap.size wo wr := (((Below.refl _ _).alloc (Nat.le_refl _) _).trans (hb2.mono (by omega))).trans (hb3.mono (by omega))
          have e1 : wr.cell? ⟨wo.heap.size, 1, none⟩ = some (.int .i64 m) := (hb3.cell (p := ⟨wo.heap.size, 1, none⟩) (by show wo.heap.size < _; omega)).trans Hd1.out
          have hRr := HR.out.keep HB
          have hI := Lib.hid hown.ints
          have hbw : Below w.heap.size w wr := hb.trans (HB.mono hz)
          have hzw : w.heap.size ≤ wr.heap.size := by omega
          have htp : Hid (Bp.btext (b.map (Bp.sw x y)) = (Bp.tp x y (s, m)).1) := by unfold Hid Bp.tp; rw [Hbs.out]
          obtain ⟨t, ht⟩ : ∃ t, Bp.btext (b.map (Bp.sw x y)) = t := ⟨_, rfl⟩
          rw [ht] at htp
          have Ht := Lib.hid ht
          have hnbc : nb ≤ cb := hnb
          clear hje hsa hown ht
          go_wp2_with fail
          go_region_law (first
            | ((go_simp
                go_at_call 25
                (with_reducible refine (iBallotText_yes Ab nb cb (b.map (Bp.sw x y)) _ ?_ hnbc hbv2.out).mono ?_)
                · exact hI.out
                rw [Ht.out]
                rintro e w4 ⟨rfl, hb4⟩
                have hb5 : Below wr.heap.size wr w4 := by first | exact hb4 | exact ((Below.refl wr.heap.size wr).drew).trans hb4
                have e4 : w4.cell? ⟨wo.heap.size, 1, none⟩ = some (.int .i64 m) := cell_later hb5 e1
                have hs4 := hb5.size
                have own4 : OwnP w4 w.heap.size (.slice A3 k c3) k ((ps.map (Bp.tp x y)).take k) := hRr.keep hb5
                have hbw4 : Below w.heap.size w w4 := hbw.trans (hb5.mono hzw)))
            | ((refine step_append_own (o := ⟨some 71, _, _, _, _, _⟩) (by rfl) (.tmp 64) (.tmp 70) 23 (by rfl) w.heap.size 50 i0 _ 2 24 Try.underlying23 hi0 hz0 hz1 hz2 (by rfl) (by decide) (.slice A3 k c3) k (pcells ((ps.map (Bp.tp x y)).take k)) (by rfl) (by repeat (first | exact own4.row | refine own_drawn ?_ | refine own_drewN ?_ _ | refine World.ownsRow.alloc ?_ _)) ⟨w4.heap.size, 0, none⟩ 1 1 [.string t, .int .i64 m] (by rfl) (by rfl) (pair_new _ _ _ _) (by simp [Value.oneCell']) (by unfold maxLen; omega) (by omega) (by first | omega | (simp; omega)) ?_; intro v5 w5 hown5 hg5 hv5))
            | fail)
          all_goals
            obtain ⟨A5, c5, rfl, hkc5⟩ := own_slice hown5
            go_simp
            go_wp2_with fail
            go_roundw
            case rel =>
              refine ⟨k + 1, A5, c5, rfl, by go_num, by omega, hkc5, ?_, (hbw4.alloc (by omega) _).grown hg5 (by simp; omega) (fun g hg => (hRr.row.lt g hg).1)⟩
              have e : (ps.map (Bp.tp x y)).take (k + 1) = (ps.map (Bp.tp x y)).take k ++ [(t, m)] := by
                have h1 : k < (ps.map (Bp.tp x y)).length := by rw [List.length_map]; exact hkp
                rw [List.take_succ_eq_append_getElem h1, List.getElem_map]
                have h2 : ps[k] = (s, m) := by rw [← hp.out]; simp [List.getD, hkp]
                rw [h2, htp.out]
                rfl
              rw [e]
              unfold OwnP
              rw [pcells_append]
              exact hown5
            case measure => simp [intOf]; omega
    · have hkn : k = n := by omega
      rw [List.take_of_length_le (by rw [List.length_map, hl.out]; omega)] at hR
      have hPl : Piles wr wr.heap.size A3 k (ps.map (Bp.tp x y)) := hR.piles.fine (fun p hp => by
        obtain ⟨q, hq, rfl⟩ := List.mem_map.1 hp
        have h1 : (Bp.btext ((Bp.bal q.1).map (Bp.sw x y))).size ≤ 5 := by rw [Bp.btext_size, List.length_map]; exact Bp.bal_len q.1
        show (Bp.btext ((Bp.bal q.1).map (Bp.sw x y))).size ≤ 1048576
        omega)
      have hPL : ∀ t : TypeId, PLists (wr.alloc (.cells #[.slice A3 k c3] t)) (wr.alloc (.cells #[.slice A3 k c3] t)).heap.size wr.heap.size 0 1 [ps.map (Bp.tp x y)] := fun t =>
        ⟨rfl, by simp, fun i hi => by
          have e : i = 0 := by omega
          subst e
          exact ⟨A3, k, c3, by simp, hkc, (hPl.below ((Below.refl _ _).alloc (Nat.le_refl _) _)).mono (by simp)⟩⟩
      have HPL := Lib.hid hPL
      have Hkn := Lib.hid hkn
      clear hkn hPl hPL hR
      go_wp2_with (go_at_call 36; with_reducible refine (iPilesOf_any wr.heap.size 0 1 1 [ps.map (Bp.tp x y)] _ (HPL.out _) ?_ ?_ ?_ ?_).mono ?_; rotate_left 4)
      · rintro e w3 ⟨A4, n4, c4, qs, rfl, hnc4, hn4, hM, hord, hP, hb3⟩
        go_wp2_with fail
        go_ret2
        rw [List.flatten_cons, List.flatten_nil, List.append_nil] at hM
        exact ⟨A4, n4, c4, qs, rfl, hnc4, hn4, hM, hord, hP, (hb.alloc (by omega) _).trans (hb3.mono (by simp; omega))⟩
      · omega
      · rw [List.flatten_cons, List.flatten_nil, List.append_nil, List.length_map, hl.out]; omega
      · rw [List.flatten_cons, List.flatten_nil, List.append_nil]
        intro p hp
        obtain ⟨q, hq, rfl⟩ := List.mem_map.1 hp
        have := (Bp.pval_iff _).1 (psval_mem Hv.out q hq)
        show 0 ≤ q.2 ∧ q.2 ≤ 99
        omega
      · rw [List.flatten_cons, List.flatten_nil, List.append_nil]
        intro p hp
        obtain ⟨q, hq, rfl⟩ := List.mem_map.1 hp
        have h1 : (Bp.btext ((Bp.bal q.1).map (Bp.sw x y))).size ≤ 5 := by rw [Bp.btext_size, List.length_map]; exact Bp.bal_len q.1
        show (Bp.btext ((Bp.bal q.1).map (Bp.sw x y))).size ≤ 1048576
        omega
end Go.Proofs.Ytdcfpobjiofnmaa
