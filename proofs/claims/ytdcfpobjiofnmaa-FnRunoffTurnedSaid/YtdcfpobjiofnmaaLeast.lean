/-
  The walk of the reference's l12Least: who leaves.
-/
import Derived.Test.YtdcfpobjiofnmaaRunoffSmall
namespace Go.Proofs.Ytdcfpobjiofnmaa
set_option linter.unusedVariables false
open Go.RowKit

/-- the numbers below nothing -/
def Bp.negs (l : List Int) : List Int := l.map fun z => -z
theorem Bp.negs_len (l : List Int) : (Bp.negs l).length = l.length := by simp [Bp.negs]
theorem Bp.negs_at (l : List Int) (k : Nat) : (Bp.negs l).getD k 0 = -(l.getD k 0) := by
  by_cases h : k < l.length
  · simp [Bp.negs, List.getD, h]
  · simp [Bp.negs, List.getD, h]
theorem Bp.negs_snoc (l : List Int) (k : Nat) (h : k < l.length) : (Bp.negs l).take (k + 1) = (Bp.negs l).take k ++ [-(l.getD k 0)] := by
  rw [List.take_succ_eq_append_getElem (by rw [Bp.negs_len]; exact h)]
  simp [Bp.negs, List.getD, h]
/-- the least one of the first k candidates who are there, or -1 -/
def Bp.LeastAt (counts : List Int) (left : List Bool) (k : Nat) (b : Int) : Prop :=
  (b = -1 ∧ ∀ j, j < k → left.getD j false = true) ∨ ∃ p : Nat, p < k ∧ b = p ∧ left.getD p false = false ∧ ∀ j, j < k → left.getD j false = false → counts.getD p 0 ≤ counts.getD j 0
/-- the last one in the first k lots with the least count M, or some other one with it -/
def Bp.LastAt (counts : List Int) (left : List Bool) (lots : List Int) (M : Int) (k : Nat) (b : Int) : Prop :=
  (0 ≤ b ∧ b < lots.length ∧ left.getD b.toNat false = false ∧ counts.getD b.toNat 0 = M) ∧
  ((∀ j, j < k → ¬ (left.getD (lots.getD j 0).toNat false = false ∧ counts.getD (lots.getD j 0).toNat 0 = M)) ∨
   ∃ q, q < k ∧ b = lots.getD q 0 ∧ ∀ j, q < j → j < k → ¬ (left.getD (lots.getD j 0).toNat false = false ∧ counts.getD (lots.getD j 0).toNat 0 = M))
theorem Bp.lastAt_least (counts : List Int) (left : List Bool) (lots : List Int) (M b : Int) (hl : Bp.lval lots = true) (hn : left.length = lots.length) (hm : ∀ j, j < lots.length → left.getD j false = false → M ≤ counts.getD j 0)
    (h : Bp.LastAt counts left lots M lots.length b) : b = Bp.least counts left lots := by
  obtain ⟨⟨b0, b1, b2, b3⟩, h⟩ := h
  obtain ⟨bn, rfl⟩ := Int.eq_ofNat_of_zero_le b0
  rw [Int.toNat_natCast] at b2 b3
  have ht : Bp.there left ≠ 0 := fun e => by
    have := Bp.thereTo_none left left.length e bn (by omega)
    rw [b2] at this; cases this
  have hmem := Bp.lval_all hl bn (by omega)
  obtain ⟨q0, hq0, e0⟩ := List.getElem_of_mem hmem
  rcases h with h | ⟨q, hq, e, h⟩
  · exfalso
    apply h q0 hq0
    rw [Bp.getD_get _ _ hq0, e0, Int.toNat_natCast]
    exact ⟨b2, b3⟩
  · obtain ⟨p, hp, ep, hlp, h1, h2⟩ := Bp.least_is counts left lots hl hn ht
    have hr := fun j (hj : j < lots.length) => Bp.lval_at hl j hj
    have hql : left.getD (lots.getD q 0).toNat false = false := by rw [← e, Int.toNat_natCast]; exact b2
    have hqc : counts.getD (lots.getD q 0).toNat 0 = M := by rw [← e, Int.toNat_natCast]; exact b3
    have := Bp.least_uniq counts left lots p q hp hq hlp hql h1 h2 (fun j hj hlj => by
      rw [hqc]
      have := hr j hj
      exact hm _ (by omega) hlj) (fun j hqj hj hlj => by
      rw [hqc]
      have := hr j hj
      have h3 := hm _ (show (lots.getD j 0).toNat < lots.length by omega) hlj
      have h4 := h j hqj hj
      rcases Int.lt_or_eq_of_le h3 with h5 | h5
      · exact h5
      · exact absurd ⟨hlj, h5.symm⟩ h4)
    rw [e, ep, this]

set_option maxRecDepth 100000 in
set_option maxHeartbeats 1000000 in
theorem l12Least_any (A A1 A2 : Option Addr) (n c c1 c2 : Nat) (counts lots : List Int) (left : List Bool) (w : World) (h : Ints w w.heap.size A n counts) (h1 : Bools w w.heap.size A1 n left) (h2 : Ints w w.heap.size A2 n lots)
    (hlv : Bp.lval lots = true) (ht : Bp.there left ≠ 0) (q : Int) (hbd : Bp.Bd counts q) (hq : q ≤ 100000) :
    Calls Try.prog 92 #[.slice A n c, .slice A1 n c1, .slice A2 n c2] w fun e w' => e = .returned (.int .i64 (Bp.least counts left lots)) ∧ Below w.heap.size w w' := by
  have hl := Lib.hid h.1
  have hl1 := Lib.hid h1.1
  have hl2 := Lib.hid h2.1
  have hn5 := Bp.lval_n hlv
  rw [hl2.out] at hn5
  have Hlv := Lib.hid hlv
  have Ht := Lib.hid ht
  have Hbd := Lib.hid hbd
  clear hlv ht hbd
  obtain ⟨i0, hi0, hz0, hz1, hz2⟩ := info_parts int_info
  go_enter Try.func92, Try.ntmps92
  go_wp2
  go_loopw [7, 8] (fun v i wr => ∃ k : Nat, k ≤ n ∧ i = .int .i64 k ∧ (∃ A c, v = .slice A k c ∧ k ≤ c ∧ Own wr w.heap.size (.slice A k c) k ((Bp.negs counts).take k)) ∧ Below w.heap.size w wr) (fun _ i _ => n - (intOf i).toNat)
  case atStart => exact ⟨0, Nat.zero_le _, rfl, ⟨_, 0, rfl, Nat.le_refl _, World.ownsRow_lit w #[] 0 (Nat.le_refl _) (by decide) rfl⟩, (by repeat (first | exact Below.refl _ _ | assumption | refine below_drewN ?_ _ | refine Below.drew ?_ | refine Below.alloc ?_ (by first | exact Nat.le_refl _ | omega | (simp; done) | (simp; omega)) _ | refine Below.setCell ?_ (by first | exact Nat.le_refl _ | omega | (simp; done) | (simp; omega)) _))⟩
  case round =>
    obtain ⟨k, hk, rfl, ⟨A3, c3, rfl, hkc, hown⟩, hb⟩ := hrel
    have hz := hb.size
    by_cases hlt : k < n
    · obtain ⟨g, o, z, rfl, _, hc, hzz⟩ := (h.below hb).at hlt
      have hzb := Hbd.out.nth k
      rw [hzz.out] at hzb
      have Hs := Lib.hid (Bp.negs_snoc counts k (by rw [hl.out]; exact hlt))
      go_wp2_with (at_builtin; refine wpList_append_own _ rfl (.tmp 19) (.tmp 25) 31 rfl w.heap.size 3 i0 _ 1 8 Try.underlying31 hi0 hz0 hz1 hz2 rfl (by decide) (.slice A3 k c3) k _ rfl (hown.row.alloc _) ⟨wr.heap.size, 0, none⟩ 1 1 [.int .i64 (-z)] rfl rfl (cell_one_new _ _ _) (by simp [Value.oneCell']) (by unfold maxLen; omega) (by omega) (by simp; omega) ?_; intro v1 w1 hown1 hg1 _; obtain ⟨A4, c4, rfl, hkc1⟩ := own_slice hown1)
      go_roundw
      case rel => exact ⟨k + 1, by omega, by go_num, ⟨A4, c4, rfl, hkc1, by unfold Own; rw [Hs.out, hzz.out, List.map_append]; exact hown1⟩, (hb.alloc hz _).grown hg1 (by simp; omega) (fun g hg => (hown.row.lt g hg).1)⟩
      case measure => simp [intOf]; omega
    · have hkn : k = n := by omega
      have hT : Ints wr wr.heap.size A3 n (Bp.negs counts) := by
        have e : (Bp.negs counts).take k = Bp.negs counts := List.take_of_length_le (by rw [Bp.negs_len, hl.out]; omega)
        rw [e] at hown
        have := hown.ints
        rw [hkn] at this
        exact this
      have hkn2 : n ≤ k := by omega
      have Hkn := Lib.hid hkn
      have hcN := (h.below hb).mono hz
      have hlN := (h1.below hb).mono hz
      have htN := (h2.below hb).mono hz
      clear hkn hown h h1 h2
      obtain ⟨wx, rfl⟩ : ∃ wx : World, wx = wr := ⟨_, rfl⟩
      go_wp2_with fail
      go_loopw [9, 10] (fun b i wi => ∃ (j : Nat) (bv : Int), j ≤ n ∧ i = .int .i64 j ∧ b = .int .i64 bv ∧ Hid (Bp.LeastAt counts left j bv) ∧ Drawn wx wi) (fun _ i _ => n - (intOf i).toNat)
      case atStart => exact ⟨0, -1, Nat.zero_le _, rfl, rfl, .inl ⟨rfl, fun j hj => absurd hj (by omega)⟩, Drawn.refl _⟩
      case round =>
        obtain ⟨j, bv, hj, rfl, rfl, hL, hd⟩ := hrel
        have hbw := hd.below wx.heap.size
        by_cases hlt : j < n
        · obtain ⟨g1, o1, b, rfl, _, hc1', hb1⟩ := (hlN.below hbw).at hlt
          obtain ⟨g3, o3, z3, rfl, _, hc3', hz3⟩ := (hT.below hbw).at hlt
          have hz3' := hz3.out
          rw [Bp.negs_at] at hz3'
          have i1 : (0 : Int) ≤ (j : Int) := by omega
          have i2 : (j : Int) < (n : Int) := by omega
          have i3 : (j : Int) < (k : Int) := by omega
          have Hz3 := Lib.hid hz3'
          clear hz3' hz3
          cases b
          · rcases hL.out with ⟨rfl, hall⟩ | ⟨p, hp, rfl, hlp, hmin⟩
            · have hall := Lib.hid hall
              clear hL
              have d0 : decide ((-1 : Int) < 0) = true := by decide
              go_wp2_with fail
              go_quiet (fail)
              go_wp2_with fail
              go_roundw
              case rel => exact ⟨j + 1, j, by omega, by go_num, rfl, .inr ⟨j, by omega, rfl, hb1.out, fun i hi hli => by
                by_cases hij : i = j
                · subst hij; exact Int.le_refl _
                · rw [hall.out i (by omega)] at hli; cases hli⟩, hd.drewN _⟩
              case measure => simp [intOf]; omega
            · obtain ⟨gp, op, zp, hA, _, hcp, hzp⟩ := (hT.below hbw).at (show p < n by omega)
              injection hA with hA
              injection hA with e1 e2
              subst e1; subst e2
              have hzp' := hzp.out
              rw [Bp.negs_at] at hzp'
              have i4 : (0 : Int) ≤ (p : Int) := by omega
              have i5 : (p : Int) < (n : Int) := by omega
              have i6 : (p : Int) < (k : Int) := by omega
              have i7 : ¬ (p : Int) < 0 := by omega
              have d0 : decide ((p : Int) < 0) = false := decide_eq_false i7
              have Hzp := Lib.hid hzp'
              have Hmin := Lib.hid hmin
              have Hlp := Lib.hid hlp
              clear hzp' hzp hL hmin hlp
              by_cases hcmp : zp < z3
              · go_wp2_with fail
                go_quiet (fail)
                go_wp2_with fail
                go_roundw
                case rel => exact ⟨j + 1, j, by omega, by go_num, rfl, .inr ⟨j, by omega, rfl, hb1.out, fun i hi hli => by
                  by_cases hij : i = j
                  · subst hij; exact Int.le_refl _
                  · have a1 := Hmin.out i (by omega) hli
                    have a2 := Hz3.out
                    have a3 := Hzp.out
                    omega⟩, hd.drewN _⟩
                case measure => simp [intOf]; omega
              · go_wp2_with fail
                go_quiet (fail)
                go_wp2_with fail
                go_roundw
                case rel => exact ⟨j + 1, p, by omega, by go_num, rfl, .inr ⟨p, by omega, rfl, Hlp.out, fun i hi hli => by
                  by_cases hij : i = j
                  · subst hij
                    have a2 := Hz3.out
                    have a3 := Hzp.out
                    omega
                  · exact Hmin.out i (by omega) hli⟩, hd.drewN _⟩
                case measure => simp [intOf]; omega
          · go_wp2_with fail
            go_quiet (fail)
            go_wp2_with fail
            go_roundw
            case rel => exact ⟨j + 1, bv, by omega, by go_num, rfl, by
              rcases hL.out with ⟨e, hall⟩ | ⟨p, hp, e, hlp, hmin⟩
              · refine .inl ⟨e, fun i hi => ?_⟩
                by_cases hij : i = j
                · subst hij; exact hb1.out
                · exact hall i (by omega)
              · refine .inr ⟨p, by omega, e, hlp, fun i hi hli => ?_⟩
                by_cases hij : i = j
                · subst hij; rw [hb1.out] at hli; cases hli
                · exact hmin i (by omega) hli, hd.drewN _⟩
            case measure => simp [intOf]; omega
        · have hjn : j = n := by omega
          obtain ⟨p, hp, rfl, hlp, hmin⟩ : ∃ p : Nat, p < n ∧ bv = p ∧ left.getD p false = false ∧ ∀ i, i < n → left.getD i false = false → counts.getD p 0 ≤ counts.getD i 0 := by
            rcases hL.out with ⟨_, hall⟩ | ⟨p, hp, e, hlp, hmin⟩
            · exfalso
              apply Ht.out
              unfold Bp.there
              have hz : ∀ i, i ≤ left.length → Bp.thereTo left i = 0 := fun i => by
                induction i with
                | zero => intro _; rfl
                | succ i ih =>
                  intro hi
                  rw [hl1.out] at hi
                  rw [Bp.thereTo, hall i (by omega), ih (by rw [hl1.out]; omega)]
                  rfl
              exact hz _ (Nat.le_refl _)
            · rw [hjn] at hp hmin
              exact ⟨p, hp, e, hlp, hmin⟩
          obtain ⟨M, hM⟩ : ∃ M, counts.getD p 0 = M := ⟨_, rfl⟩
          have HMin := Lib.hid hmin
          have HM := Lib.hid hM
          have Hlp := Lib.hid hlp
          clear hL hjn hmin hM hlp
          obtain ⟨wy, rfl⟩ : ∃ wy : World, wy = wr := ⟨_, rfl⟩
          go_wp2_with fail
          go_loopw [9, 11] (fun b i wi => ∃ (j : Nat) (bv : Int), j ≤ n ∧ i = .int .i64 j ∧ b = .int .i64 bv ∧ Hid (Bp.LastAt counts left lots M j bv) ∧ Drawn wx wi) (fun _ i _ => n - (intOf i).toNat)
          case atStart => exact ⟨0, p, Nat.zero_le _, rfl, rfl, ⟨⟨by omega, by rw [hl2.out]; omega, by rw [Int.toNat_natCast]; exact Hlp.out, by rw [Int.toNat_natCast]; exact HM.out⟩, .inl (fun j hj => absurd hj (by omega))⟩, hd⟩
          case round =>
            obtain ⟨j, bv, hj, rfl, rfl, hL, hd'⟩ := hrel
            have hbw := hd'.below wx.heap.size
            by_cases hlt : j < n
            · obtain ⟨g2, o2, z2, rfl, _, hc2', hz2'⟩ := (htN.below hbw).at hlt
              have hzr := Bp.lval_at Hlv.out j (by rw [hl2.out]; exact hlt)
              rw [hz2'.out, hl2.out] at hzr
              obtain ⟨zn, rfl⟩ := Int.eq_ofNat_of_zero_le hzr.1
              have hznn : zn < n := by omega
              obtain ⟨g1, o1, b, rfl, _, hc1', hb1⟩ := (hlN.below hbw).at hznn
              obtain ⟨g, o, x, rfl, _, hcx, hx⟩ := (hcN.below hbw).at hznn
              have hb01 := hL.out.1
              rw [hl2.out] at hb01
              obtain ⟨bn, rfl⟩ := Int.eq_ofNat_of_zero_le hb01.1
              have hbnn : bn < n := by omega
              obtain ⟨g0, o0, y, hA, _, hcy, hy⟩ := (hcN.below hbw).at hbnn
              injection hA with hA
              injection hA with e1 e2
              subst e1; subst e2
              have hyM : y = M := by rw [← hy.out, ← hb01.2.2.2, Int.toNat_natCast]
              have i1 : (0 : Int) ≤ (j : Int) := by omega
              have i2 : (j : Int) < (n : Int) := by omega
              have i3 : (0 : Int) ≤ (zn : Int) := by omega
              have i4 : (zn : Int) < (n : Int) := by omega
              have i5 : (0 : Int) ≤ (bn : Int) := by omega
              have i6 : (bn : Int) < (n : Int) := by omega
              have HyM := Lib.hid hyM
              clear hb01 hyM
              cases b
              · by_cases hxy : x = y
                · have d1 : (x == y) = true := by simpa using hxy
                  have Hxy := Lib.hid hxy
                  clear hxy
                  go_wp2_with fail
                  go_quiet (fail)
                  go_wp2_with fail
                  go_roundw
                  case rel => exact ⟨j + 1, zn, by omega, by go_num, rfl, ⟨⟨by omega, by rw [hl2.out]; omega, by rw [Int.toNat_natCast]; exact hb1.out, by rw [Int.toNat_natCast, hx.out, Hxy.out, HyM.out]⟩, .inr ⟨j, by omega, hz2'.out.symm, fun i h1 h2 => absurd h2 (by omega)⟩⟩, hd'.drewN _⟩
                  case measure => simp [intOf]; omega
                · have d1 : (x == y) = false := by simpa using hxy
                  have Hxy := Lib.hid hxy
                  clear hxy
                  go_wp2_with fail
                  go_quiet (fail)
                  go_wp2_with fail
                  go_roundw
                  case rel => exact ⟨j + 1, bn, by omega, by go_num, rfl, ⟨hL.out.1, by
                    have hno : ¬ (left.getD (lots.getD j 0).toNat false = false ∧ counts.getD (lots.getD j 0).toNat 0 = M) := fun hh => by
                      rw [hz2'.out, Int.toNat_natCast, hx.out] at hh
                      exact Hxy.out (by rw [hh.2, HyM.out])
                    rcases hL.out.2 with h1 | ⟨q, h1, h2, h3⟩
                    · refine .inl (fun i hi => ?_)
                      by_cases hij : i = j
                      · subst hij; exact hno
                      · exact h1 i (by omega)
                    · refine .inr ⟨q, by omega, h2, fun i hqi hi => ?_⟩
                      by_cases hij : i = j
                      · subst hij; exact hno
                      · exact h3 i hqi (by omega)⟩, hd'.drewN _⟩
                  case measure => simp [intOf]; omega
              · go_wp2_with fail
                go_quiet (fail)
                go_wp2_with fail
                go_roundw
                case rel => exact ⟨j + 1, bn, by omega, by go_num, rfl, ⟨hL.out.1, by
                  have hno : ¬ (left.getD (lots.getD j 0).toNat false = false ∧ counts.getD (lots.getD j 0).toNat 0 = M) := fun hh => by
                    rw [hz2'.out, Int.toNat_natCast, hb1.out] at hh
                    cases hh.1
                  rcases hL.out.2 with h1 | ⟨q, h1, h2, h3⟩
                  · refine .inl (fun i hi => ?_)
                    by_cases hij : i = j
                    · subst hij; exact hno
                    · exact h1 i (by omega)
                  · refine .inr ⟨q, by omega, h2, fun i hqi hi => ?_⟩
                    by_cases hij : i = j
                    · subst hij; exact hno
                    · exact h3 i hqi (by omega)⟩, hd'.drewN _⟩
                case measure => simp [intOf]; omega
            · have hjn : j = n := by omega
              have Hjn := Lib.hid hjn
              clear hjn
              go_wp2_with fail
              go_ret
              refine ⟨ret_int ?_, hb.trans (hd'.below _)⟩
              have hL' := hL.out
              rw [Hjn.out, ← hl2.out] at hL'
              exact Bp.lastAt_least counts left lots M bv Hlv.out (by rw [hl1.out, hl2.out]) (fun i hi hli => by rw [← HM.out]; exact HMin.out i (by rw [← hl2.out]; exact hi) hli) hL'
end Go.Proofs.Ytdcfpobjiofnmaa
