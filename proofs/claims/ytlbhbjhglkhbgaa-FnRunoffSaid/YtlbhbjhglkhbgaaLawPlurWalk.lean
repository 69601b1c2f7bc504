/-
  The walks of FnPlurality and FnPluralityMargin.
-/
import Derived.Test.YtlbhbjhglkhbgaaDrawLots
import Derived.Test.YtlbhbjhglkhbgaaMargin
import Derived.Test.YtlbhbjhglkhbgaaPlurPlain
namespace Go.Proofs.Ytlbhbjhglkhbgaa
set_option linter.unusedVariables false
open Go.RowKit

set_option maxRecDepth 100000 in
set_option maxHeartbeats 400000 in
theorem before_any (A : Option Addr) (n c : Nat) (lots : List Int) (x y : Int) (B : Nat) (w : World) (h : Ints w B A n lots) (hn : n ≤ 1048576) (hx : 0 ≤ x) :
    Calls Try.prog 18 #[.slice A n c, .int .i64 x, .int .i64 y] w fun e w' => e = .returned (.bool (Bp.bef lots x y)) ∧ w = w' := by
  have hl := Lib.hid h.1
  go_enter Try.func18, Try.ntmps18
  go_wp2
  go_loop [7] (fun i => ∃ k : Nat, k ≤ n ∧ i = .int .i64 k ∧ Hid (∀ j, j < k → (lots.getD j 0 == x || lots.getD j 0 == y) = false)) (fun i => n - (intOf i).toNat)
  case atStart => exact ⟨0, Nat.zero_le _, rfl, fun j hj => absurd hj (by omega)⟩
  case round =>
    obtain ⟨k, hk, rfl, hq⟩ := hrel
    by_cases hlt : k < n
    · obtain ⟨g, o, z, rfl, _, hc, hz⟩ := h.at hlt
      have hi1 : (0 : Int) ≤ (k : Int) := by omega
      have hi2 : (k : Int) < (n : Int) := by omega
      have Hf : Hid ((z == x || z == y) = true → Bp.bef lots x y = (z == x && x != y)) := fun hzz => by
        unfold Bp.bef
        rw [Bp.firstOf_found _ lots k (by rw [hl.out]; exact hlt) (by rw [hz.out]; exact hzz) hq.out, hz.out]
      cases h1 : (z == x)
      · cases h2 : (z == y)
        · have H1 := Lib.hid h1
          have H2 := Lib.hid h2
          go_wp2_with fail
          go_round
          case rel => exact ⟨k + 1, by omega, by go_num, fun j hj => by
            by_cases hj' : j = k
            · subst hj'; rw [hz.out, H1.out, H2.out]; rfl
            · exact hq.out j (by omega)⟩
          case measure => simp [intOf]; omega
        · have H1 := Lib.hid h1
          have H2 := Lib.hid h2
          go_wp2_with fail
          go_ret
          exact ⟨ret_bool (by rw [Hf.out (by rw [H2.out, Bool.or_true]), H1.out]; rfl), rfl⟩
      · have H1 := Lib.hid h1
        cases h3 : (x != y)
        all_goals
          have H3 := Lib.hid h3
          go_wp2_with fail
          go_ret
          exact ⟨ret_bool (by rw [Hf.out (by rw [H1.out, Bool.true_or]), H1.out, H3.out]; rfl), rfl⟩
    · have Hn : Hid (Bp.bef lots x y = false) := by
        show _ = _
        unfold Bp.bef
        rw [Bp.firstOf_none _ lots (fun j hj => hq.out j (by rw [hl.out] at hj; omega))]
        have : ((-1 : Int) == x) = false := by rw [beq_eq_false_iff_ne]; omega
        rw [this]; rfl
      go_wp2_with fail
      go_ret
      exact ⟨ret_bool Hn.out.symm, rfl⟩
theorem before_val (A : Option Addr) (n c : Nat) (lots : List Int) (x y : Int) (v : Bool) (hv : Bp.bef lots x y = v) (B : Nat) (w : World) (h : Ints w B A n lots) (hn : n ≤ 1048576) (hx : 0 ≤ x) :
    Calls Try.prog 18 #[.slice A n c, .int .i64 x, .int .i64 y] w fun e w' => e = .returned (.bool v) ∧ w = w' := by
  subst hv; exact before_any A n c lots x y B w h hn hx

theorem fresh_bools {w : World} {base : Nat} {A : Option Addr} {n c : Nat} (h : OwnB w base (.slice A n c) n (List.replicate n false)) : Bools w w.heap.size A n (Bp.fresh n) := h.bools

set_option maxRecDepth 100000 in
set_option maxHeartbeats 2000000 in
theorem lawPlurality_any (A : Option Addr) (n c : Nat) (w : World) (h : Bytes w w.heap.size A n) (hn : n ≤ 9223372036854775807) (hc : n ≤ c) :
    Calls Try.prog 3 #[.slice A n c] w fun e w' => e = .returned (.bool true) ∧ Below w.heap.size w w' := by
  by_cases hb : 1048576 < n
  · go_enter Try.func3, Try.ntmps3
    go_wp2_with fail
    go_ret
    exact ⟨rfl, Below.refl _ _⟩
  obtain ⟨i0, hi0, hz0, hz1, hz2⟩ := info_parts bool_info
  go_enter Try.func3, Try.ntmps3
  go_wp2_with fail
  refine (drawPluralityWinner_some A n c _ h hn hc).mono ?_
  rintro e w1 ⟨gp, k, cp, Al, m, cl, ps, lots, rfl, hcp, hkp, hcl, hml, hps, hlo, hb1⟩
  have hs1 := hb1.size
  go_wp2_with fail
  refine (iPluralityWinner_any _ k cp Al m cl ps lots _ hps (by omega) hcp hlo (by omega) hcl).mono ?_
  rintro e w2 ⟨rfl, hb2⟩
  have hs2 := hb2.size
  have hps2 := (hps.below hb2).mono hs2
  have hlo2 := (hlo.below hb2).mono hs2
  have hB2 := hb1.trans (hb2.mono hs1)
  go_wp2_with fail
  refine (sPluralityWinner_any _ k cp Al m cl ps lots _ hps2 (by omega) hlo2 (by omega) hcl).mono ?_
  rintro e w3 ⟨rfl, hb3⟩
  have hs3 := hb3.size
  have hps3 := (hps2.below hb3).mono hs3
  have hlo3 := (hlo2.below hb3).mono hs3
  have hB3 := hB2.trans (hb3.mono (by omega))
  have hl := hlo.1
  have Hl := Lib.hid hl
  clear hps hlo hps2 hlo2
  cases hok : Bp.ok ps lots
  · have hw := Bp.pwin_no hok
    rw [hw]
    clear hok hl hw
    go_wp2_with fail
    go_ret
    exact ⟨rfl, hB3⟩
  · have hw := Bp.pwin_yes hok
    have hlv := Bp.ok_lval hok
    have hf := Bp.ok_fits hok
    have hm5 := Bp.lval_n hlv
    rw [hl] at hm5 hf
    have hbd : Bp.Bd (Bp.firsts ps (Bp.fresh lots.length)) 1188 := Bp.firsts_bd (Bp.fits_val (Bp.ok_fits hok))
    obtain ⟨p, hp, hbp, ha1, ha2⟩ := Bp.best_spec (Bp.firsts ps (Bp.fresh lots.length)) lots (by have := Bp.lval_n hlv; omega)
    have hbr := Bp.best_range (counts := Bp.firsts ps (Bp.fresh lots.length)) hlv
    rw [hw, hl]
    rw [hl] at hbd hbp ha1 ha2 hbr hp
    obtain ⟨Z, hZ⟩ : ∃ Z, Bp.firsts ps (Bp.fresh m) = Z := ⟨_, rfl⟩
    rw [hZ] at hbd hbp ha1 ha2 hbr ⊢
    obtain ⟨b, hbb⟩ : ∃ b, Bp.best Z lots = b := ⟨_, rfl⟩
    rw [hbb] at hbp hbr ⊢
    obtain ⟨bn, rfl⟩ := Int.eq_ofNat_of_zero_le hbr.1
    have hbm : bn < m := by omega
    have hbm0 : decide ((bn : Int) < 0) = false := by simp
    have hbm1 : decide ((m : Int) ≤ (bn : Int)) = false := by simp; omega
    have hbm2 : decide (m ≤ bn) = false := by simp; omega
    rw [← hbp, Int.toNat_natCast] at ha1 ha2
    have HZ := Lib.hid hZ
    have Hlv := Lib.hid hlv
    have Hf := Lib.hid hf
    have Hbd := Lib.hid hbd
    have Hbp := Lib.hid hbp
    have Ha1 := Lib.hid ha1
    have Ha2 := Lib.hid ha2
    clear hok hl hw hlv hf hbd hbp ha1 ha2 hZ hbb hbr
    go_wp2_with (at_make; refine wpList_make_full _ rfl (.tmp 38) (.tmp 38) 30 rfl _ 4 i0 _ 1 Try.underlying30 hi0 hz0 hz1 .i64 .i64 m m m rfl rfl rfl rfl (by rw [hz2]; omega) (by unfold maxLen; omega) (Nat.le_refl _) ?_; intro w4 hown4 hg4)
    have own4 := madeB_own hown4
    have hb4 : Below w3.heap.size w3 w4 := (Below.refl _ _).grown hg4 (Nat.le_refl _) (by simp)
    have hs4 := hb4.size
    have hB4 := hB3.trans (hb4.mono (by omega))
    have hps4 := (hps3.below hb4).mono hs4
    have hlo4 := (hlo3.below hb4).mono hs4
    clear hown4 hg4
    have hcall := iFirstCounts_any _ k cp _ m m ps (Bp.fresh m) _ hps4 (by omega) hcp (fresh_bools own4) (by omega) (Nat.le_refl _)
    rw [show (Bp.fresh m).length = m from Bp.fresh_len m, Hf.out] at hcall
    refine hcall.mono ?_
    rintro e w5 ⟨Ac, nc, cc, rfl, hcc, hnc, own5, hb5⟩
    have hs5 := hb5.size
    have hB5 := hB4.trans (hb5.mono (by omega))
    rw [cres_yes rfl, HZ.out] at own5
    have hnm : nc = m := by
      have e1 := own5.len
      rw [← HZ.out, Bp.firsts_len, Bp.fresh_len] at e1
      omega
    subst hnm
    have hi := own5.ints
    have hlo5 := (hlo4.below hb5).mono hs5
    clear own5 own4 hcall hps3 hps4 hlo3 hlo4
    go_wp2_with fail
    go_loopw [9] (fun i wr => ∃ j : Nat, j ≤ nc ∧ i = .int .i64 j ∧ Drawn w5 wr) (fun i _ => nc - (intOf i).toNat)
    case atStart => exact ⟨0, Nat.zero_le _, rfl, Drawn.refl _⟩
    case round =>
      obtain ⟨j, hj, rfl, hd⟩ := hrel
      by_cases hlt : j < nc
      · have hbw := hd.below w5.heap.size
        have hlow := hlo5.below hbw
        have hiw := hi.below hbw
        obtain ⟨g1, o1, z, rfl, _, hz, ez⟩ := hlow.at hlt
        have hzr := Bp.lval_at Hlv.out j (by rw [Hl.out]; exact hlt)
        rw [ez.out, Hl.out] at hzr
        obtain ⟨zn, rfl⟩ := Int.eq_ofNat_of_zero_le hzr.1
        have hzn : zn < nc := by omega
        obtain ⟨g2, o2, x, rfl, _, hx, ex⟩ := hiw.at hzn
        obtain ⟨g3, o3, y, hA, _, hy, ey⟩ := hiw.at hbm
        injection hA with hA
        injection hA with e1 e2
        subst e1; subst e2
        have hle := Ha1.out j hlt
        rw [ez.out, Int.toNat_natCast, ex.out, ey.out] at hle
        have i1 : (0 : Int) ≤ (zn : Int) := by omega
        have i2 : (zn : Int) < (nc : Int) := by omega
        have i3 : (0 : Int) ≤ (bn : Int) := by omega
        have i4 : (bn : Int) < (nc : Int) := by omega
        have d1 : ¬ y < x := by omega
        have hbef : x = y → Bp.bef lots (zn : Int) (bn : Int) = false := fun e => by
          rw [← ez.out, Hbp.out, Bp.bef_at Hlv.out (by rw [Hl.out]; exact hlt) (by rw [Hl.out]; exact hp), decide_eq_false_iff_not]
          intro hjp
          have := Ha2.out j hjp
          rw [ez.out, Int.toNat_natCast, ex.out, ey.out] at this
          omega
        have Hbef := Lib.hid hbef
        clear hbef hle
        by_cases hxy : x = y
        · have d2 : (x == y) = true := by simpa using hxy
          have Hxy := Lib.hid hxy
          clear hxy
          go_wp2_with fail
          go_quiet ((go_at_call 18; exact quiet_left (before_val _ nc cl lots _ _ false (Hbef.out Hxy.out) _ _ (hlow.drewN _) (by omega) (by omega))))
          go_wp2_with fail
          go_roundw
          case rel => exact ⟨j + 1, by omega, by go_num, hd.drewN _⟩
          case measure => simp [intOf]; omega
        · have d2 : (x == y) = false := by simpa using hxy
          have Hxy := Lib.hid hxy
          clear hxy
          go_wp2_with fail
          go_quiet (fail)
          go_wp2_with fail
          go_roundw
          case rel => exact ⟨j + 1, by omega, by go_num, hd.drewN _⟩
          case measure => simp [intOf]; omega
      · go_wp2_with fail
        go_ret
        exact ⟨rfl, hB5.trans (hd.below _)⟩
end Go.Proofs.Ytlbhbjhglkhbgaa
