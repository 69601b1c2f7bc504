/-
  The walks of what asks whether piles are piles, and whether they fit a number of candidates.
-/
import Derived.Test.YtiglkajafdecgaaParse
import Derived.Deep.RegionWith
import Derived.Deep.DrawnRows
namespace Go.Proofs.Ytiglkajafdecgaa
set_option linter.unusedVariables false
open Go.RowKit
attribute [local go_sem ↓] Go.wp_at_zero Go.wp_at_succ

/-- what a pile's ballot leaves -/
def Balloted (s : ByteArray) (w : World) (e : Ending) (w' : World) : Prop :=
  ∃ (A : Option Addr) (n c : Nat), e = .returned (.slice A n c) ∧ n ≤ c ∧ Own w' w.heap.size (.slice A n c) n (Bp.bal s) ∧ Below w.heap.size w w'

set_option maxRecDepth 100000 in
set_option maxHeartbeats 400000 in
theorem ballot_any (s : ByteArray) (m : Int) (w : World) (hs : s.size ≤ 1048576) :
    Calls Try.prog 65 #[.agg #[.string s, .int .i64 m]] w (Balloted s w) := by
  go_enter Try.func65, Try.ntmps65
  go_wp2_with fail
  refine (iBallotParse_any s _ hs).mono ?_
  rintro e w1 ⟨A, n, c, rfl, hnc, hown, hb⟩
  go_wp2_with fail
  go_ret
  exact ⟨A, n, c, rfl, hnc, hown.base (by simp), Below.trans (by repeat (first | exact Below.refl _ _ | assumption | refine below_drewN ?_ _ | refine Below.drew ?_ | refine Below.alloc ?_ (by first | exact Nat.le_refl _ | omega | (simp; done) | (simp; omega)) _ | refine Below.setCell ?_ (by first | exact Nat.le_refl _ | omega | (simp; done) | (simp; omega)) _)) (hb.mono (by first | omega | (simp; done) | (simp; omega)))⟩

set_option maxRecDepth 100000 in
set_option maxHeartbeats 400000 in
theorem pileValid_any (s : ByteArray) (m : Int) (w : World) (hs : s.size ≤ 1048576) :
    Calls Try.prog 69 #[.agg #[.string s, .int .i64 m]] w fun e w' => e = .returned (.bool (Bp.pval (s, m))) ∧ Below w.heap.size w w' := by
  cases hp : Bp.pok s
  · have H := Lib.hid hp
    go_enter Try.func69, Try.ntmps69
    go_wp2_with fail
    refine (iBallotParse_any s _ hs).mono ?_
    rintro e w1 ⟨A, n, c, rfl, hnc, hown, hb⟩
    have hB : Below w.heap.size w w1 := Below.trans (by repeat (first | exact Below.refl _ _ | assumption | refine below_drewN ?_ _ | refine Below.drew ?_ | refine Below.alloc ?_ (by first | exact Nat.le_refl _ | omega | (simp; done) | (simp; omega)) _ | refine Below.setCell ?_ (by first | exact Nat.le_refl _ | omega | (simp; done) | (simp; omega)) _)) (hb.mono (by first | omega | (simp; done) | (simp; omega)))
    go_wp2_with fail
    go_ret
    exact ⟨ret_bool (by simp [Bp.pval, H.out]), hB⟩
  · have H := Lib.hid hp
    go_enter Try.func69, Try.ntmps69
    go_wp2_with fail
    refine (iBallotParse_any s _ hs).mono ?_
    rintro e w1 ⟨A, n, c, rfl, hnc, hown, hb⟩
    have hB : Below w.heap.size w w1 := Below.trans (by repeat (first | exact Below.refl _ _ | assumption | refine below_drewN ?_ _ | refine Below.drew ?_ | refine Below.alloc ?_ (by first | exact Nat.le_refl _ | omega | (simp; done) | (simp; omega)) _ | refine Below.setCell ?_ (by first | exact Nat.le_refl _ | omega | (simp; done) | (simp; omega)) _)) (hb.mono (by first | omega | (simp; done) | (simp; omega)))
    have hc1 : w1.cell? ⟨w.heap.size, 1, none⟩ = some (.int .i64 m) := cell_later hb (by simp [go_sem])
    go_wp2_with fail
    all_goals
      go_ret
      exact ⟨ret_bool (by first | (simp [Bp.pval, H.out, *]; done) | (simp [Bp.pval, H.out]; omega)), hB⟩

set_option maxRecDepth 100000 in
set_option maxHeartbeats 400000 in
theorem l3Pile_any (s : ByteArray) (m : Int) (w : World) (hs : s.size ≤ 1048576) :
    Calls Try.prog 80 #[.agg #[.string s, .int .i64 m]] w fun e w' => e = .returned (.bool (Bp.pval (s, m))) ∧ Below w.heap.size w w' := by
  cases hp : Bp.pok s
  · have H := Lib.hid hp
    go_enter Try.func80, Try.ntmps80
    go_wp2_with fail
    refine (sBallotParse_any s _ hs).mono ?_
    rintro e w1 ⟨A, n, c, rfl, hnc, hown, hb⟩
    have hB : Below w.heap.size w w1 := Below.trans (by repeat (first | exact Below.refl _ _ | assumption | refine below_drewN ?_ _ | refine Below.drew ?_ | refine Below.alloc ?_ (by first | exact Nat.le_refl _ | omega | (simp; done) | (simp; omega)) _ | refine Below.setCell ?_ (by first | exact Nat.le_refl _ | omega | (simp; done) | (simp; omega)) _)) (hb.mono (by first | omega | (simp; done) | (simp; omega)))
    go_wp2_with fail
    go_ret
    exact ⟨ret_bool (by simp [Bp.pval, H.out]), hB⟩
  · have H := Lib.hid hp
    go_enter Try.func80, Try.ntmps80
    go_wp2_with fail
    refine (sBallotParse_any s _ hs).mono ?_
    rintro e w1 ⟨A, n, c, rfl, hnc, hown, hb⟩
    have hB : Below w.heap.size w w1 := Below.trans (by repeat (first | exact Below.refl _ _ | assumption | refine below_drewN ?_ _ | refine Below.drew ?_ | refine Below.alloc ?_ (by first | exact Nat.le_refl _ | omega | (simp; done) | (simp; omega)) _ | refine Below.setCell ?_ (by first | exact Nat.le_refl _ | omega | (simp; done) | (simp; omega)) _)) (hb.mono (by first | omega | (simp; done) | (simp; omega)))
    have hc1 : w1.cell? ⟨w.heap.size, 1, none⟩ = some (.int .i64 m) := cell_later hb (by simp [go_sem])
    go_wp2_with (go_at_call 52; refine (l6In_any _ _ _ _).mono ?_; rintro e w' ⟨rfl, rfl⟩)
    go_ret
    exact ⟨ret_bool (by simp [Bp.pval, H.out, Fp.inr]), hB⟩

theorem pileValid_val (s : ByteArray) (m : Int) (v : Bool) (hv : Bp.pval (s, m) = v) (w : World) (hs : s.size ≤ 1048576) :
    Calls Try.prog 69 #[.agg #[.string s, .int .i64 m]] w fun e w' => e = .returned (.bool v) ∧ Below w.heap.size w w' := by
  subst hv; exact pileValid_any s m w hs

set_option maxRecDepth 100000 in
set_option maxHeartbeats 400000 in
theorem iPilesValid_any (A : Option Addr) (n c : Nat) (ps : List Bp.Pile) (w : World) (h : Piles w w.heap.size A n ps) (hn : n ≤ 1048576) (hnc : n ≤ c) :
    Calls Try.prog 46 #[.slice A n c] w fun e w' => e = .returned (.bool (Bp.psval ps)) ∧ Below w.heap.size w w' := by
  have hl := Lib.hid h.1.1
  go_enter Try.func46, Try.ntmps46
  go_wp2
  go_loopw [7] (fun i wr => ∃ k : Nat, k ≤ n ∧ i = .int .i64 k ∧ Hid (∀ j, j < k → Bp.POk ps j) ∧ Below w.heap.size w wr) (fun i _ => n - (intOf i).toNat)
  case atStart => exact ⟨0, Nat.zero_le _, rfl, fun j hj => absurd hj (by omega), Below.refl _ _⟩
  case round =>
    obtain ⟨k, hk, rfl, hq, hb⟩ := hrel
    have hz := hb.size
    by_cases hlt : k < n
    · have hr := h.below hb
      obtain ⟨g, o, s, m, rfl, hg, hc1, hc2, hss, hp⟩ := hr.at hlt
      have Hbad : Hid (¬ Bp.POk ps k → Bp.psval ps = false) := fun hf => Bp.psval_bad ps k (by rw [hl.out]; exact hlt) hf
      have hx0 := fun x => calm_cell (W := wr.alloc (.cells #[.string s, .int .i64 m] 57)) (a := ⟨wr.heap.size, 0, none⟩) (v := .string s) (by simp [go_sem]) x
      have hx1 := fun x => calm_cell (W := wr.alloc (.cells #[.string s, .int .i64 m] 57)) (a := ⟨wr.heap.size, 1, none⟩) (v := .int .i64 m) (by simp [go_sem]) x
      cases hv : Bp.pval (s, m)
      · have Hv := Lib.hid hv
        clear hv
        go_wp2_with fail
        refine wp_region_calm (by kernel_rfl) (by kernel_rfl) ?_
        repeat (go_big_quiet_step ((go_at_call 69; exact calm_call (pileValid_val s m false Hv.out _ hss))))
        refine wpQuiet_nil ?_
        rintro _ ⟨⟨w1, hb1⟩, rfl⟩
        go_wp2_with fail
        go_ret
        exact ⟨ret_bool (Hbad.out (by rintro ⟨h1, _⟩; rw [hp.out, Hv.out] at h1; cases h1)).symm, (hb.alloc hz _).trans (hb1.mono (by first | omega | (simp; done) | (simp; omega)))⟩
      · have Hv := Lib.hid hv
        clear hv
        by_cases h0 : k = 0
        · have hd : decide (0 < k) = false := by simp; omega
          have H0 := Lib.hid h0
          clear h0
          go_wp2_with fail
          refine wp_region_calm (by kernel_rfl) (by kernel_rfl) ?_
          repeat (go_big_quiet_step ((go_at_call 69; exact calm_call (pileValid_val s m true Hv.out _ hss))))
          refine wpQuiet_nil ?_
          rintro _ ⟨⟨w1, hb1⟩, rfl⟩
          go_wp2_with fail
          go_roundw
          case rel => exact ⟨k + 1, by omega, by go_num, fun j hj => by
            by_cases hj' : j = k
            · subst hj'
              refine ⟨by rw [hp.out]; exact Hv.out, fun h00 => ?_⟩
              have := H0.out; omega
            · exact hq.out j (by omega), (hb.alloc hz _).trans (hb1.mono (by first | omega | (simp; done) | (simp; omega)))⟩
          case measure => simp [intOf]; omega
        · have hd : decide (0 < k) = true := by simp; omega
          obtain ⟨g', o', s', m', hA, hg', hc1', hc2', hss', hp'⟩ := hr.at (show k - 1 < n by omega)
          injection hA with hA
          injection hA with e1 e2
          subst e1 e2
          have hx2 := fun x => calm_cell (W := wr.alloc (.cells #[.string s, .int .i64 m] 57)) (a := ⟨g, o + (k - 1) * 2, none⟩) (v := .string s') (((Below.refl wr.heap.size wr).alloc (Nat.le_refl _) _ |>.cell (lt_of_cell hc1')).trans hc1') x
          cases hx : Op.bytesLess s.toList s'.toList
          · have Hx := Lib.hid hx
            cases hy : (s.toList == s'.toList)
            · have Hy := Lib.hid hy
              go_wp2_with fail
              refine wp_region_calm (by kernel_rfl) (by kernel_rfl) ?_
              repeat (go_big_quiet_step ((go_at_call 69; exact calm_call (pileValid_val s m true Hv.out _ hss))))
              refine wpQuiet_nil ?_
              rintro _ ⟨⟨w1, hb1⟩, rfl⟩
              go_wp2_with fail
              go_roundw
              case rel => exact ⟨k + 1, by omega, by go_num, fun j hj => by
                by_cases hj' : j = k
                · subst hj'
                  refine ⟨by rw [hp.out]; exact Hv.out, fun _ => ?_⟩
                  rw [hp.out, hp'.out]
                  exact Bp.ahead_yes s s' Hx.out Hy.out
                · exact hq.out j (by omega), (hb.alloc hz _).trans (hb1.mono (by first | omega | (simp; done) | (simp; omega)))⟩
              case measure => simp [intOf]; omega
            · have Hy := Lib.hid hy
              go_wp2_with fail
              refine wp_region_calm (by kernel_rfl) (by kernel_rfl) ?_
              repeat (go_big_quiet_step ((go_at_call 69; exact calm_call (pileValid_val s m true Hv.out _ hss))))
              refine wpQuiet_nil ?_
              rintro _ ⟨⟨w1, hb1⟩, rfl⟩
              go_wp2_with fail
              go_ret
              exact ⟨ret_bool (Hbad.out (by
                rintro ⟨_, h1⟩
                have h1 := h1 (by omega)
                rw [hp.out, hp'.out, Bp.ahead_no s s' (.inr Hy.out)] at h1
                cases h1)).symm, (hb.alloc hz _).trans (hb1.mono (by first | omega | (simp; done) | (simp; omega)))⟩
          · have Hx := Lib.hid hx
            go_wp2_with fail
            refine wp_region_calm (by kernel_rfl) (by kernel_rfl) ?_
            repeat (go_big_quiet_step ((go_at_call 69; exact calm_call (pileValid_val s m true Hv.out _ hss))))
            refine wpQuiet_nil ?_
            rintro _ ⟨⟨w1, hb1⟩, rfl⟩
            go_wp2_with fail
            go_ret
            exact ⟨ret_bool (Hbad.out (by
              rintro ⟨_, h1⟩
              have h1 := h1 (by omega)
              rw [hp.out, hp'.out, Bp.ahead_no s s' (.inl Hx.out)] at h1
              cases h1)).symm, (hb.alloc hz _).trans (hb1.mono (by first | omega | (simp; done) | (simp; omega)))⟩
    · have hkn : k = n := by omega
      have HH := Lib.hid (Bp.psval_all ps (fun j hj => hq.out j (by rw [hl.out] at hj; omega)))
      have Hkn := Lib.hid hkn
      clear hkn
      go_wp2_with fail
      go_ret
      exact ⟨ret_bool (by rw [HH.out, hl.out]), hb⟩
theorem l3Pile_val (s : ByteArray) (m : Int) (v : Bool) (hv : Bp.pval (s, m) = v) (w : World) (hs : s.size ≤ 1048576) :
    Calls Try.prog 80 #[.agg #[.string s, .int .i64 m]] w fun e w' => e = .returned (.bool v) ∧ Below w.heap.size w w' := by
  subst hv; exact l3Pile_any s m w hs

set_option maxRecDepth 100000 in
set_option maxHeartbeats 400000 in
theorem sPilesValid_any (A : Option Addr) (n c : Nat) (ps : List Bp.Pile) (w : World) (h : Piles w w.heap.size A n ps) (hn : n ≤ 1048576) :
    Calls Try.prog 75 #[.slice A n c] w fun e w' => e = .returned (.bool (Bp.psval ps)) ∧ Below w.heap.size w w' := by
  have hl := Lib.hid h.1.1
  go_enter Try.func75, Try.ntmps75
  go_wp2
  go_loopw [3] (fun i wr => ∃ k : Nat, k ≤ n ∧ i = .int .i64 k ∧ Hid (∀ j, j < k → Bp.POk ps j) ∧ Below w.heap.size w wr) (fun i _ => n - (intOf i).toNat)
  case atStart => exact ⟨0, Nat.zero_le _, rfl, fun j hj => absurd hj (by omega), Below.refl _ _⟩
  case round =>
    obtain ⟨k, hk, rfl, hq, hb⟩ := hrel
    have hz := hb.size
    by_cases hlt : k < n
    · have hr := h.below hb
      obtain ⟨g, o, s, m, rfl, hg, hc1, hc2, hss, hp⟩ := hr.at hlt
      have Hbad : Hid (¬ Bp.POk ps k → Bp.psval ps = false) := fun hf => Bp.psval_bad ps k (by rw [hl.out]; exact hlt) hf
      have hx0 := fun x => calm_cell (W := wr) hc1 x
      have hx1 := fun x => calm_cell (W := wr) hc2 x
      cases hv : Bp.pval (s, m)
      · have Hv := Lib.hid hv
        clear hv
        go_wp2_with fail
        refine wp_region_calm (by kernel_rfl) (by kernel_rfl) ?_
        repeat (go_big_quiet_step ((go_at_call 80; exact calm_call (l3Pile_val s m false Hv.out _ hss))))
        refine wpQuiet_nil ?_
        rintro _ ⟨⟨w1, hb1⟩, rfl⟩
        go_wp2_with fail
        go_ret
        exact ⟨ret_bool (Hbad.out (by rintro ⟨h1, _⟩; rw [hp.out, Hv.out] at h1; cases h1)).symm, hb.trans (hb1.mono hz)⟩
      · have Hv := Lib.hid hv
        clear hv
        by_cases h0 : k = 0
        · have hd : decide (0 < k) = false := by simp; omega
          have H0 := Lib.hid h0
          clear h0
          go_wp2_with fail
          refine wp_region_calm (by kernel_rfl) (by kernel_rfl) ?_
          repeat (go_big_quiet_step ((go_at_call 80; exact calm_call (l3Pile_val s m true Hv.out _ hss))))
          refine wpQuiet_nil ?_
          rintro _ ⟨⟨w1, hb1⟩, rfl⟩
          go_wp2_with fail
          go_roundw
          case rel => exact ⟨k + 1, by omega, by go_num, fun j hj => by
            by_cases hj' : j = k
            · subst hj'
              refine ⟨by rw [hp.out]; exact Hv.out, fun h00 => ?_⟩
              have := H0.out; omega
            · exact hq.out j (by omega), hb.trans (hb1.mono hz)⟩
          case measure => simp [intOf]; omega
        · have hd : decide (0 < k) = true := by simp; omega
          obtain ⟨g', o', s', m', hA, hg', hc1', hc2', hss', hp'⟩ := hr.at (show k - 1 < n by omega)
          injection hA with hA
          injection hA with e1 e2
          subst e1 e2
          have hx2 := fun x => calm_cell (W := wr) hc1' x
          cases hx : Op.bytesLess s'.toList s.toList
          · have Hx := Lib.hid hx
            go_wp2_with fail
            refine wp_region_calm (by kernel_rfl) (by kernel_rfl) ?_
            repeat (go_big_quiet_step ((go_at_call 80; exact calm_call (l3Pile_val s m true Hv.out _ hss))))
            refine wpQuiet_nil ?_
            rintro _ ⟨⟨w1, hb1⟩, rfl⟩
            go_wp2_with fail
            go_ret
            exact ⟨ret_bool (Hbad.out (by
              rintro ⟨_, h1⟩
              have h1 := h1 (by omega)
              rw [hp.out, hp'.out, Bp.ahead, Hx.out] at h1
              cases h1)).symm, hb.trans (hb1.mono hz)⟩
          · have Hx := Lib.hid hx
            go_wp2_with fail
            refine wp_region_calm (by kernel_rfl) (by kernel_rfl) ?_
            repeat (go_big_quiet_step ((go_at_call 80; exact calm_call (l3Pile_val s m true Hv.out _ hss))))
            refine wpQuiet_nil ?_
            rintro _ ⟨⟨w1, hb1⟩, rfl⟩
            go_wp2_with fail
            go_roundw
            case rel => exact ⟨k + 1, by omega, by go_num, fun j hj => by
              by_cases hj' : j = k
              · subst hj'
                refine ⟨by rw [hp.out]; exact Hv.out, fun _ => ?_⟩
                rw [hp.out, hp'.out]
                exact Hx.out
              · exact hq.out j (by omega), hb.trans (hb1.mono hz)⟩
            case measure => simp [intOf]; omega
    · have hkn : k = n := by omega
      have HH := Lib.hid (Bp.psval_all ps (fun j hj => hq.out j (by rw [hl.out] at hj; omega)))
      have Hkn := Lib.hid hkn
      clear hkn
      go_wp2_with fail
      go_ret
      exact ⟨ret_bool (by rw [HH.out, hl.out]), hb⟩

set_option maxRecDepth 100000 in
set_option maxHeartbeats 400000 in
theorem pilesFit_any (A : Option Addr) (n c : Nat) (m : Int) (ps : List Bp.Pile) (w : World) (h : Piles w w.heap.size A n ps) (hn : n ≤ 1048576) (hnc : n ≤ c) :
    Calls Try.prog 42 #[.slice A n c, .int .i64 m] w fun e w' => e = .returned (.bool (Bp.fits ps m)) ∧ Below w.heap.size w w' := by
  have hl := Lib.hid h.1.1
  cases hm : Bp.many m
  · have H := Lib.hid (Bp.fits_many ps m hm)
    go_enter Try.func42, Try.ntmps42
    go_wp2_with (go_at_call 64; refine (isMany_any _ _).mono ?_; rintro e w' ⟨rfl, rfl⟩)
    go_ret
    exact ⟨ret_bool H.out.symm, (by repeat (first | exact Below.refl _ _ | assumption | refine below_drewN ?_ _ | refine Below.drew ?_ | refine Below.alloc ?_ (by first | exact Nat.le_refl _ | omega | (simp; done) | (simp; omega)) _ | refine Below.setCell ?_ (by first | exact Nat.le_refl _ | omega | (simp; done) | (simp; omega)) _))⟩
  cases hp : Bp.psval ps
  · have H := Lib.hid (Bp.fits_ps ps m hp)
    go_enter Try.func42, Try.ntmps42
    go_wp2_with (first | (go_at_call 64; refine (isMany_any _ _).mono ?_; rintro e w' ⟨rfl, rfl⟩) | (go_at_call 46; refine (iPilesValid_any A n c ps _ h hn hnc).mono ?_; rintro e w1 ⟨rfl, hb1⟩))
    go_ret
    exact ⟨ret_bool H.out.symm, (by repeat (first | exact Below.refl _ _ | assumption | refine below_drewN ?_ _ | refine Below.drew ?_ | refine Below.alloc ?_ (by first | exact Nat.le_refl _ | omega | (simp; done) | (simp; omega)) _ | refine Below.setCell ?_ (by first | exact Nat.le_refl _ | omega | (simp; done) | (simp; omega)) _))⟩
  · have Hm := Lib.hid hm
    have Hp := Lib.hid hp
    go_enter Try.func42, Try.ntmps42
    go_wp2_with (first | (go_at_call 64; refine (isMany_any _ _).mono ?_; rintro e w' ⟨rfl, rfl⟩) | (go_at_call 46; refine (iPilesValid_any A n c ps _ h hn hnc).mono ?_; rintro e w1 ⟨rfl, hb1⟩))
    clear hm hp
    go_loopw [17] (fun i wr => ∃ k : Nat, k ≤ n ∧ i = .int .i64 k ∧ Hid (∀ j, j < k → Bp.bval (Bp.bal (ps.getD j default).1) m = true) ∧ Below w.heap.size w wr) (fun i _ => n - (intOf i).toNat)
    case atStart => exact ⟨0, Nat.zero_le _, rfl, fun j hj => absurd hj (by omega), hb1⟩
    case round =>
      obtain ⟨k, hk, rfl, hq, hb⟩ := hrel
      have hz := hb.size
      by_cases hlt : k < n
      · have hr := h.below hb
        obtain ⟨g, o, s, q, rfl, hg, hc1, hc2, hss, hp⟩ := hr.at hlt
        go_wp2_with fail
        refine (ballot_any s q _ hss).mono ?_
        rintro e w2 ⟨A2, n2, c2, rfl, hnc2, hown2, hb2⟩
        have hB2 : Below w.heap.size w w2 := Below.trans (by repeat (first | exact Below.refl _ _ | assumption | refine below_drewN ?_ _ | refine Below.drew ?_ | refine Below.alloc ?_ (by first | exact Nat.le_refl _ | omega | (simp; done) | (simp; omega)) _ | refine Below.setCell ?_ (by first | exact Nat.le_refl _ | omega | (simp; done) | (simp; omega)) _)) (hb2.mono (by first | omega | (simp; done) | (simp; omega)))
        have hi2 := hown2.ints
        have hl2 := hown2.len
        have hlen2 : n2 ≤ 1048576 := by have := Bp.bal_len s; omega
        have Hl2 := Lib.hid hl2
        clear hl2
        cases hv : Bp.bval (Bp.bal s) m
        · have Hbad := Lib.hid (Bp.fits_bad ps m k (by rw [hl.out]; exact hlt) (by rw [hp.out]; exact hv))
          go_wp2_with (go_at_call 49; refine (iBallotValid_any A2 n2 c2 m (Bp.bal s) _ _ hi2 (by omega) hnc2).mono ?_; rintro e w' ⟨rfl, rfl⟩)
          go_ret
          exact ⟨ret_bool Hbad.out.symm, hB2⟩
        · have Hv := Lib.hid hv
          go_wp2_with (go_at_call 49; refine (iBallotValid_any A2 n2 c2 m (Bp.bal s) _ _ hi2 (by omega) hnc2).mono ?_; rintro e w' ⟨rfl, rfl⟩)
          go_roundw
          case rel => exact ⟨k + 1, by omega, by go_num, fun j hj => by
            by_cases hj' : j = k
            · subst hj'; rw [hp.out]; exact Hv.out
            · exact hq.out j (by omega), hB2⟩
          case measure => simp [intOf]; omega
      · have HH := Lib.hid (Bp.fits_true ps m Hm.out Hp.out (fun j hj => hq.out j (by rw [hl.out] at hj; omega)))
        go_wp2_with fail
        go_ret
        exact ⟨ret_bool HH.out.symm, hb⟩

set_option maxRecDepth 100000 in
set_option maxHeartbeats 400000 in
theorem l3Fits_any (A : Option Addr) (n c : Nat) (m : Int) (ps : List Bp.Pile) (w : World) (h : Piles w w.heap.size A n ps) (hn : n ≤ 1048576) :
    Calls Try.prog 51 #[.slice A n c, .int .i64 m] w fun e w' => e = .returned (.bool (Bp.fits ps m)) ∧ Below w.heap.size w w' := by
  have hl := Lib.hid h.1.1
  go_enter Try.func51, Try.ntmps51
  go_wp2
  go_loopw [5] (fun i wr => ∃ k : Nat, k ≤ n ∧ i = .int .i64 k ∧ Hid (∀ j, j < k → Bp.bval (Bp.bal (ps.getD j default).1) m = true) ∧ Below w.heap.size w wr) (fun i _ => n - (intOf i).toNat)
  case atStart => exact ⟨0, Nat.zero_le _, rfl, fun j hj => absurd hj (by omega), Below.refl _ _⟩
  case round =>
    obtain ⟨k, hk, rfl, hq, hb⟩ := hrel
    have hz := hb.size
    by_cases hlt : k < n
    · have hr := h.below hb
      obtain ⟨g, o, s, q, rfl, hg, hc1, hc2, hss, hp⟩ := hr.at hlt
      go_wp2_with fail
      refine (sBallotParse_any s _ hss).mono ?_
      rintro e w2 ⟨A2, n2, c2, rfl, hnc2, hown2, hb2⟩
      have hB2 : Below w.heap.size w w2 := hb.trans (hb2.mono (by first | omega | (simp; done) | (simp; omega)))
      have hi2 := hown2.ints
      have hl2 := hown2.len
      have hlen2 : n2 ≤ 1048576 := by have := Bp.bal_len s; omega
      have Hl2 := Lib.hid hl2
      clear hl2
      cases hv : Bp.bval (Bp.bal s) m
      · have Hbad := Lib.hid (Bp.fits_bad ps m k (by rw [hl.out]; exact hlt) (by rw [hp.out]; exact hv))
        go_wp2_with (go_at_call 74; refine (sBallotValid_any A2 n2 c2 m (Bp.bal s) _ _ hi2 (by omega) hnc2).mono ?_; rintro e w3 ⟨rfl, hd3⟩)
        go_ret
        exact ⟨ret_bool Hbad.out.symm, hB2.trans (hd3.below _)⟩
      · have Hv := Lib.hid hv
        go_wp2_with (go_at_call 74; refine (sBallotValid_any A2 n2 c2 m (Bp.bal s) _ _ hi2 (by omega) hnc2).mono ?_; rintro e w3 ⟨rfl, hd3⟩)
        go_roundw
        case rel => exact ⟨k + 1, by omega, by go_num, fun j hj => by
          by_cases hj' : j = k
          · subst hj'; rw [hp.out]; exact Hv.out
          · exact hq.out j (by omega), hB2.trans (hd3.below _)⟩
        case measure => simp [intOf]; omega
    · have HH : Hid (Bp.fits ps m = (Bp.psval ps && Fp.inr m 1 5)) := Bp.fits_all ps m (fun j hj => hq.out j (by rw [hl.out] at hj; omega))
      have hr := h.below hb
      cases hp : Bp.psval ps
      · have Hp := Lib.hid hp
        go_wp2_with (go_at_call 75; refine (sPilesValid_any A n c ps _ (hr.mono hz) hn).mono ?_; rintro e w1 ⟨rfl, hb1⟩)
        go_ret
        exact ⟨ret_bool (by rw [HH.out, Hp.out]; rfl), hb.trans (hb1.mono hz)⟩
      · have Hp := Lib.hid hp
        go_wp2_with (first | (go_at_call 75; refine (sPilesValid_any A n c ps _ (hr.mono hz) hn).mono ?_; rintro e w1 ⟨rfl, hb1⟩) | (go_at_call 52; refine (l6In_any _ _ _ _).mono ?_; rintro e w' ⟨rfl, rfl⟩))
        go_ret
        exact ⟨ret_bool (by rw [HH.out, Hp.out]; rfl), hb.trans (hb1.mono hz)⟩
end Go.Proofs.Ytiglkajafdecgaa
