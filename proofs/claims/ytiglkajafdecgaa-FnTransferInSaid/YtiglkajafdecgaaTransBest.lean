/-
  The walks of the reference's transfer: who has most and who has least.
-/
import Derived.Test.YtiglkajafdecgaaTransS
import Derived.Test.YtiglkajafdecgaaTransLess
namespace Go.Proofs.Ytiglkajafdecgaa
set_option linter.unusedVariables false
open Go.RowKit

theorem sFracLess_val (a b c d : Int) (v : Bool) (w : World) (hv1 : Fp.vld a b = true) (hv2 : Fp.vld c d = true) (hv : Fp.less a b c d = v) :
    Calls Try.prog 56 #[.agg #[.int .i64 a, .int .i64 b], .agg #[.int .i64 c, .int .i64 d]] w fun e w' => e = .returned (.bool v) ∧ Below w.heap.size w w' := by
  subst hv; exact sFracLess_any a b c d w hv1 hv2
set_option maxRecDepth 100000 in
set_option maxHeartbeats 4000000 in
theorem l15Hi_any (A A1 A2 : Option Addr) (m ca c1 c2 : Nat) (d : Int) (cs lots : List Int) (lf : List Bool) (w : World) (hC : Fracs w w.heap.size A m (Bp.frs d cs)) (hL : Bools w w.heap.size A1 m lf) (hI : Ints w w.heap.size A2 m lots)
    (hlv : Bp.lval lots = true) (hd : 1 ≤ d) (hd' : d ≤ 60) (hbd : Bp.Bd cs (d * 60)) :
    Calls Try.prog 55 #[.slice A m ca, .slice A1 m c1, .slice A2 m c2, .bool false] w fun e w' => e = .returned (.int .i64 (Bp.hi cs lf lots)) ∧ Below w.heap.size w w' := by
  have hl := Lib.hid hI.1
  have hm5 := Bp.lval_n hlv
  rw [hl.out] at hm5
  have hlen : cs.length = m := by have := hC.1; rw [Bp.frs_len] at this; exact this
  have hvld : ∀ j, Fp.vld (Bp.fr d (cs.getD j 0)).1 (Bp.fr d (cs.getD j 0)).2 = true := fun j => by
    have := hbd j
    exact Bp.fr_vld hd (by omega) (by omega) (by omega)
  have Hless := Lib.hid (fun j k => Bp.fr_less_same (d := d) hd (hvld j) (hvld k))
  have Hvld := Lib.hid hvld
  have Hlv := Lib.hid hlv
  have Hbd := Lib.hid hbd
  clear hlv hvld hbd
  go_enter Try.func55, Try.ntmps55
  go_wp2_with fail
  go_loopw [9, 10] (fun b i wr => ∃ j : Nat, j ≤ m ∧ i = .int .i64 j ∧ b = .int .i64 (Bp.hiTo cs lf lots j) ∧ Below w.heap.size w wr) (fun _ i _ => m - (intOf i).toNat)
  case atStart => exact ⟨0, Nat.zero_le _, rfl, rfl, Below.refl _ _⟩
  case round =>
    obtain ⟨j, hj, rfl, rfl, hb⟩ := hrel
    have hz := hb.size
    by_cases hlt : j < m
    · obtain ⟨g2, o2, z2, rfl, hg2, hc2, hz2'⟩ := (hI.below hb).at hlt
      have hzr := Bp.lval_at Hlv.out j (by rw [hl.out]; exact hlt)
      rw [hz2'.out, hl.out] at hzr
      obtain ⟨zn, rfl⟩ := Int.eq_ofNat_of_zero_le hzr.1
      have hzn : zn < m := by omega
      obtain ⟨g1, o1, bz, rfl, hg1, cL, hbz⟩ := (hL.below hb).at hzn
      obtain ⟨g, o, za, zb, rfl, hg, z0, z1, hzab⟩ := (hC.below hb).at hzn
      have hzab' := hzab.out
      rw [Bp.frs_at d cs (by omega)] at hzab'
      have i1 : (0 : Int) ≤ (j : Int) := by omega
      have i2 : (j : Int) < (m : Int) := by omega
      have i3 : (0 : Int) ≤ (zn : Int) := by omega
      have i4 : (zn : Int) < (m : Int) := by omega
      have hnx : Bp.hiTo cs lf lots (j + 1) = if bz then Bp.hiTo cs lf lots j else if Bp.hiTo cs lf lots j < 0 ∨ cs.getD (Bp.hiTo cs lf lots j).toNat 0 < cs.getD zn 0 then (zn : Int) else Bp.hiTo cs lf lots j := by
        rw [Bp.hiTo, hz2'.out, Int.toNat_natCast, hbz.out]
      have Hnx := Lib.hid hnx
      have hr := Bp.hiTo_range cs lf Hlv.out j (by rw [hl.out]; omega)
      rw [hl.out] at hr
      have hvz := Hvld.out zn
      have hlz := fun p => Hless.out p zn
      rw [hzab'] at hvz
      simp only [hzab'] at hlz
      dsimp only at hvz
      have Hvz := Lib.hid hvz
      have Hlz := Lib.hid hlz
      clear hnx hbz hzab hzab' hvz hlz
      cases bz
      · rcases hr with eh | ⟨p, hp, eh⟩
        · rw [eh] at Hnx ⊢
          have d0 : decide ((-1 : Int) < 0) = true := by decide
          clear eh
          go_wp2_with fail
          go_roundw
          case rel => exact ⟨j + 1, by omega, by go_num, by rw [Hnx.out, if_neg (by simp), if_pos (.inl (by omega))], hb⟩
          case measure => simp [intOf]; omega
        · rw [eh, Int.toNat_natCast] at Hnx
          rw [eh]
          clear eh
          obtain ⟨g', o', pa, pb, hA', _, p0, p1, hpab⟩ := (hC.below hb).at hp
          injection hA' with hA'
          injection hA' with e1 e2
          subst e1; subst e2
          have hpab' := hpab.out
          rw [Bp.frs_at d cs (by omega)] at hpab'
          have hlp := Hlz.out p
          have hvp := Hvld.out p
          rw [hpab'] at hvp hlp
          dsimp only at hvp hlp
          obtain ⟨b1, hb1⟩ : ∃ b1, decide (cs.getD p 0 < cs.getD zn 0) = b1 := ⟨_, rfl⟩
          rw [hb1] at hlp
          have Hlp := Lib.hid hlp
          have Hvp := Lib.hid hvp
          have Hb1 := Lib.hid hb1
          clear hlp hvp hpab hpab' hb1
          have hpn : ¬ (p : Int) < 0 := by omega
          have d0 : decide ((p : Int) < 0) = false := decide_eq_false hpn
          have i5 : (0 : Int) ≤ (p : Int) := by omega
          have i6 : (p : Int) < (m : Int) := by omega
          have ka0 := fun x => calm_cell (W := wr) z0 x
          have ka1 := fun x => calm_cell (W := wr) z1 x
          have kp0 := fun x => calm_cell (W := wr) p0 x
          have kp1 := fun x => calm_cell (W := wr) p1 x
          cases b1
          all_goals
            go_wp2_with fail
            go_quiet (fail)
            have ka0 := fun x => calm_cell (W := wr.drewN nq) z0 x
            have ka1 := fun x => calm_cell (W := wr.drewN nq) z1 x
            have kp0 := fun x => calm_cell (W := wr.drewN nq) p0 x
            have kp1 := fun x => calm_cell (W := wr.drewN nq) p1 x
            have hbq : Below w.heap.size w (wr.drewN nq) := below_drewN hb _
            go_wp2_with fail
            refine wp_region_calm (by kernel_rfl) (by kernel_rfl) ?_
            repeat (go_big_quiet_step ((go_at_call 56; exact calm_call (sFracLess_val pa pb za zb _ _ Hvp.out Hvz.out Hlp.out))))
            refine wpQuiet_nil ?_
            rintro w3 ⟨⟨_, hb3⟩, rfl⟩
            clear ka0 ka1 kp0 kp1
            go_wp2_with fail
            go_roundw
            case rel =>
              have x1 := Hb1.out
              first | rw [decide_eq_true_iff] at x1 | rw [decide_eq_false_iff_not] at x1
              refine ⟨j + 1, by omega, by go_num, ?_, hbq.trans (hb3.mono hbq.size)⟩
              rw [Hnx.out, if_neg (by simp)]
              split <;> first | rfl | (exfalso; omega)
            case measure => simp [intOf]; omega
      · clear hr
        go_wp2_with fail
        go_roundw
        case rel => exact ⟨j + 1, by omega, by go_num, by rw [Hnx.out, if_pos rfl], hb⟩
        case measure => simp [intOf]; omega
    · have hjm : j = m := by omega
      have he : Bp.hiTo cs lf lots j = Bp.hi cs lf lots := by rw [hjm, ← hl.out]; rfl
      rw [he]
      have he' := Lib.hid he
      clear he
      go_wp2_with fail
      go_ret
      exact ⟨rfl, hb⟩
set_option maxRecDepth 100000 in
set_option maxHeartbeats 4000000 in
theorem l15Lo_any (A A1 A2 : Option Addr) (m ca c1 c2 : Nat) (d : Int) (cs lots : List Int) (lf : List Bool) (w : World) (hC : Fracs w w.heap.size A m (Bp.frs d cs)) (hL : Bools w w.heap.size A1 m lf) (hI : Ints w w.heap.size A2 m lots)
    (hlv : Bp.lval lots = true) (hd : 1 ≤ d) (hd' : d ≤ 60) (hbd : Bp.Bd cs (d * 60)) :
    Calls Try.prog 55 #[.slice A m ca, .slice A1 m c1, .slice A2 m c2, .bool true] w fun e w' => e = .returned (.int .i64 (Bp.least cs lf lots)) ∧ Below w.heap.size w w' := by
  have hl := Lib.hid hI.1
  have hm5 := Bp.lval_n hlv
  rw [hl.out] at hm5
  have hlen : cs.length = m := by have := hC.1; rw [Bp.frs_len] at this; exact this
  have hvld : ∀ j, Fp.vld (Bp.fr d (cs.getD j 0)).1 (Bp.fr d (cs.getD j 0)).2 = true := fun j => by
    have := hbd j
    exact Bp.fr_vld hd (by omega) (by omega) (by omega)
  have Hless := Lib.hid (fun j k => Bp.fr_less_same (d := d) hd (hvld j) (hvld k))
  have Hvld := Lib.hid hvld
  have Hlv := Lib.hid hlv
  have Hbd := Lib.hid hbd
  clear hlv hvld hbd
  go_enter Try.func55, Try.ntmps55
  go_wp2_with fail
  go_loopw [9, 10] (fun b i wr => ∃ j : Nat, j ≤ m ∧ i = .int .i64 j ∧ b = .int .i64 (Bp.leastTo cs lf lots j) ∧ Below w.heap.size w wr) (fun _ i _ => m - (intOf i).toNat)
  case atStart => exact ⟨0, Nat.zero_le _, rfl, rfl, Below.refl _ _⟩
  case round =>
    obtain ⟨j, hj, rfl, rfl, hb⟩ := hrel
    have hz := hb.size
    by_cases hlt : j < m
    · obtain ⟨g2, o2, z2, rfl, hg2, hc2, hz2'⟩ := (hI.below hb).at hlt
      have hzr := Bp.lval_at Hlv.out j (by rw [hl.out]; exact hlt)
      rw [hz2'.out, hl.out] at hzr
      obtain ⟨zn, rfl⟩ := Int.eq_ofNat_of_zero_le hzr.1
      have hzn : zn < m := by omega
      obtain ⟨g1, o1, bz, rfl, hg1, cL, hbz⟩ := (hL.below hb).at hzn
      obtain ⟨g, o, za, zb, rfl, hg, z0, z1, hzab⟩ := (hC.below hb).at hzn
      have hzab' := hzab.out
      rw [Bp.frs_at d cs (by omega)] at hzab'
      have i1 : (0 : Int) ≤ (j : Int) := by omega
      have i2 : (j : Int) < (m : Int) := by omega
      have i3 : (0 : Int) ≤ (zn : Int) := by omega
      have i4 : (zn : Int) < (m : Int) := by omega
      have hnx : Bp.leastTo cs lf lots (j + 1) = if bz then Bp.leastTo cs lf lots j else if Bp.leastTo cs lf lots j < 0 ∨ cs.getD zn 0 ≤ cs.getD (Bp.leastTo cs lf lots j).toNat 0 then (zn : Int) else Bp.leastTo cs lf lots j := by
        rw [Bp.leastTo, hz2'.out, Int.toNat_natCast, hbz.out]
      have Hnx := Lib.hid hnx
      have hr := Bp.loTo_range cs lf Hlv.out j (by rw [hl.out]; omega)
      rw [hl.out] at hr
      have hvz := Hvld.out zn
      have hlz := fun p => Hless.out p zn
      rw [hzab'] at hvz
      simp only [hzab'] at hlz
      dsimp only at hvz
      have Hvz := Lib.hid hvz
      have Hlz := Lib.hid hlz
      clear hnx hbz hzab hzab' hvz hlz
      cases bz
      · rcases hr with eh | ⟨p, hp, eh⟩
        · rw [eh] at Hnx ⊢
          have d0 : decide ((-1 : Int) < 0) = true := by decide
          clear eh
          go_wp2_with fail
          go_roundw
          case rel => exact ⟨j + 1, by omega, by go_num, by rw [Hnx.out, if_neg (by simp), if_pos (.inl (by omega))], hb⟩
          case measure => simp [intOf]; omega
        · rw [eh, Int.toNat_natCast] at Hnx
          rw [eh]
          clear eh
          obtain ⟨g', o', pa, pb, hA', _, p0, p1, hpab⟩ := (hC.below hb).at hp
          injection hA' with hA'
          injection hA' with e1 e2
          subst e1; subst e2
          have hpab' := hpab.out
          rw [Bp.frs_at d cs (by omega)] at hpab'
          have hlp := Hlz.out p
          have hvp := Hvld.out p
          rw [hpab'] at hvp hlp
          dsimp only at hvp hlp
          obtain ⟨b1, hb1⟩ : ∃ b1, decide (cs.getD p 0 < cs.getD zn 0) = b1 := ⟨_, rfl⟩
          rw [hb1] at hlp
          have Hlp := Lib.hid hlp
          have Hvp := Lib.hid hvp
          have Hb1 := Lib.hid hb1
          clear hlp hvp hpab hpab' hb1
          have hpn : ¬ (p : Int) < 0 := by omega
          have d0 : decide ((p : Int) < 0) = false := decide_eq_false hpn
          have i5 : (0 : Int) ≤ (p : Int) := by omega
          have i6 : (p : Int) < (m : Int) := by omega
          have ka0 := fun x => calm_cell (W := wr) z0 x
          have ka1 := fun x => calm_cell (W := wr) z1 x
          have kp0 := fun x => calm_cell (W := wr) p0 x
          have kp1 := fun x => calm_cell (W := wr) p1 x
          cases b1
          all_goals
            go_wp2_with fail
            refine wp_region_calm (by kernel_rfl) (by kernel_rfl) ?_
            repeat (go_big_quiet_step ((go_at_call 56; exact calm_call (sFracLess_val pa pb za zb _ _ Hvp.out Hvz.out Hlp.out))))
            refine wpQuiet_nil ?_
            rintro w3 ⟨⟨_, hb3⟩, rfl⟩
            clear ka0 ka1 kp0 kp1
            go_wp2_with fail
            try go_quiet (fail)
            try go_wp2_with fail
            go_roundw
            case rel =>
              have x1 := Hb1.out
              first | rw [decide_eq_true_iff] at x1 | rw [decide_eq_false_iff_not] at x1
              refine ⟨j + 1, by omega, by go_num, ?_, (by first | exact hb.trans (hb3.mono hz) | exact below_drewN (hb.trans (hb3.mono hz)) _)⟩
              rw [Hnx.out, if_neg (by simp)]
              split <;> first | rfl | (exfalso; omega)
            case measure => simp [intOf]; omega
      · clear hr
        go_wp2_with fail
        go_roundw
        case rel => exact ⟨j + 1, by omega, by go_num, by rw [Hnx.out, if_pos rfl], hb⟩
        case measure => simp [intOf]; omega
    · have hjm : j = m := by omega
      have he : Bp.leastTo cs lf lots j = Bp.least cs lf lots := by rw [hjm, ← hl.out]; rfl
      rw [he]
      have he' := Lib.hid he
      clear he
      go_wp2_with fail
      go_ret
      exact ⟨rfl, hb⟩
end Go.Proofs.Ytiglkajafdecgaa
