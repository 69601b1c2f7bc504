/-
  The walks of the fractions' functions: what each call of gcd, l5Gcd, reduced, l5Of, FracValid, FracAdd, FracTimes, FracOf, FracLess returns, in the program and in the reference.
-/
import Derived.Test.YtleceoplfboefaaDoorRows
import Derived.Test.YtleceoplfboefaaDoorBase
import Derived.Test.YtleceoplfboefaaDoorFracPlain
import Derived.Test.YtleceoplfboefaaDoorSmall
import Derived.WalkKit
import Derived.WalkSpells
import Derived.WalkLawsBesides
import Derived.Deep.QuietTactic
import Derived.BigQuiet
import Derived.Lib.Hide
import Derived.Deep.DeepMust
namespace Go.Proofs.YtleceoplfboefaaDoor
set_option linter.unusedVariables false
open Go.RowKit


set_option maxRecDepth 100000 in
set_option maxHeartbeats 400000 in
/-- impl.gcd -/
theorem gcd_any (a b : Int) (w : World) (ha : -4611686018427387904 ≤ a) (ha' : a ≤ 4611686018427387904) (hb : -4611686018427387904 ≤ b) (hb' : b ≤ 4611686018427387904) :
    Calls Tryd.prog 15 #[.int .i64 a, .int .i64 b] w fun e w' => e = .returned (.int .i64 (Fp.g a b)) ∧ ∃ n, w' = w.drewN n := by
  go_enter Tryd.func15, Tryd.ntmps15
  go_wp2
  go_loopw [0, 1] (fun x y wr => ∃ c d : Int, x = .int .i64 c ∧ y = .int .i64 d ∧ -4611686018427387904 ≤ c ∧ c ≤ 4611686018427387904 ∧ -4611686018427387904 ≤ d ∧ d ≤ 4611686018427387904 ∧ Fp.g c d = Fp.g a b ∧ ∃ n, wr = w.drewN n)
    (fun _ y _ => (intOf y).natAbs)
  case atStart => exact ⟨a, b, rfl, rfl, ha, ha', hb, hb', rfl, 0, rfl⟩
  case round =>
    obtain ⟨c, d, rfl, rfl, h1, h2, h3, h4, hg, n, rfl⟩ := hrel
    have Hg := Lib.hid hg
    clear hg
    by_cases hd : d = 0
    · subst hd
      go_wp2
      all_goals
        go_ret
        exact ⟨ret_int (by rw [← Hg.out, Fp.g_zero]; omega), n, rfl⟩
    · have hd' : (d != 0) = true := by rw [bne_iff_ne]; omega
      have hd'' : (d == 0) = false := by rw [beq_eq_false_iff_ne]; omega
      have hl := Fp.tmod_lt c d hd
      go_wp2_with fail
      go_quiet (fail)
      go_wp2
      exact ⟨⟨d, c.tmod d, rfl, rfl, h3, h4, by omega, by omega, by rw [Fp.g_step]; exact Hg.out, n + nq, by rw [World.drewN_drewN]⟩, by simpa [intOf] using hl⟩

set_option maxRecDepth 100000 in
set_option maxHeartbeats 400000 in
/-- spec.l5Gcd -/
theorem l5Gcd_any (a b : Int) (w : World) (ha : 0 ≤ a) (ha' : a ≤ 4611686018427387904) (hb : 0 ≤ b) (hb' : b ≤ 4611686018427387904) :
    Calls Tryd.prog 17 #[.int .i64 a, .int .i64 b] w fun e w' => e = .returned (.int .i64 (Fp.g a b)) ∧ w = w' := by
  go_enter Tryd.func17, Tryd.ntmps17
  go_wp2
  go_loop [0, 1] (fun x y => ∃ c d : Int, x = .int .i64 c ∧ y = .int .i64 d ∧ 0 ≤ c ∧ c ≤ 4611686018427387904 ∧ 0 ≤ d ∧ d ≤ 4611686018427387904 ∧ Fp.g c d = Fp.g a b)
    (fun _ y => (intOf y).natAbs)
  case atStart => exact ⟨a, b, rfl, rfl, ha, ha', hb, hb', rfl⟩
  case round =>
    obtain ⟨c, d, rfl, rfl, h1, h2, h3, h4, hg⟩ := hrel
    have Hg := Lib.hid hg
    clear hg
    by_cases hd : d = 0
    · subst hd
      go_wp2
      go_ret
      exact ⟨ret_int (by rw [← Hg.out, Fp.g_zero]; omega), rfl⟩
    · have hl := Fp.tmod_lt c d hd
      have h5 : 0 ≤ c.tmod d := Int.tmod_nonneg _ h1
      have h6 : c.tmod d = c % d := Int.tmod_eq_emod_of_nonneg h1
      have h7 := Fp.g_step c d
      rw [h6] at hl h5 h7
      have H7 := Lib.hid h7
      clear h7 h6
      go_wp2
      go_round
      case rel => exact ⟨d, c % d, rfl, rfl, h3, h4, h5, by omega, H7.out.trans Hg.out⟩
      case measure => simpa [intOf] using hl

set_option maxRecDepth 100000 in
set_option maxHeartbeats 400000 in
/-- impl.FracValid -/
theorem iFracValid_any (n d : Int) (w : World) :
    Calls Tryd.prog 9 #[.agg #[.int .i64 n, .int .i64 d]] w fun e w' => e = .returned (.bool (Fp.vld n d)) ∧ Below w.heap.size w w' := by
  go_enter Tryd.func9, Tryd.ntmps9
  go_wp2_with (go_at_call 15; refine (gcd_any n d _ (by omega) (by omega) (by omega) (by omega)).mono ?_; rintro e w' ⟨rfl, nq, rfl⟩)
  all_goals
    go_ret
    exact ⟨ret_bool (by first | (simp [Fp.vld, *]; done) | (simp [Fp.vld, *]; omega) | (simp [Fp.vld]; omega)), (by repeat (first | exact Below.refl _ _ | assumption | refine below_drewN ?_ _ | refine Below.drew ?_ | refine Below.alloc ?_ (by first | exact Nat.le_refl _ | omega | (simp; done) | (simp; omega)) _ | refine Below.setCell ?_ (by first | exact Nat.le_refl _ | omega | (simp; done) | (simp; omega)) _))⟩

/-- what the functions of fractions hand back: a fraction and whether it is one -/
abbrev fres (t : Int × Int × Bool) : Value := .tuple #[.agg #[.int .i64 t.1, .int .i64 t.2.1], .bool t.2.2]


set_option maxRecDepth 100000 in
set_option maxHeartbeats 400000 in
/-- spec.FracValid -/
theorem sFracValid_any (n d : Int) (w : World) :
    Calls Tryd.prog 10 #[.agg #[.int .i64 n, .int .i64 d]] w fun e w' => e = .returned (.bool (Fp.vld n d)) ∧ Below w.heap.size w w' := by
  rw [Fp.vld_inr]
  cases h1 : Fp.inr n (-9999999) 9999999
  · go_enter Tryd.func10, Tryd.ntmps10
    go_wp2_with (go_at_call 16; refine (l6In_any _ _ _ _).mono ?_; rintro e w' ⟨rfl, rfl⟩)
    go_ret
    exact ⟨ret_bool (by simp), (by repeat (first | exact Below.refl _ _ | assumption | refine below_drewN ?_ _ | refine Below.drew ?_ | refine Below.alloc ?_ (by first | exact Nat.le_refl _ | omega | (simp; done) | (simp; omega)) _ | refine Below.setCell ?_ (by first | exact Nat.le_refl _ | omega | (simp; done) | (simp; omega)) _))⟩
  · cases h2 : Fp.inr d 1 9999999
    · go_enter Tryd.func10, Tryd.ntmps10
      go_wp2_with (go_at_call 16; refine (l6In_any _ _ _ _).mono ?_; rintro e w' ⟨rfl, rfl⟩)
      go_ret
      exact ⟨ret_bool (by simp), (by repeat (first | exact Below.refl _ _ | assumption | refine below_drewN ?_ _ | refine Below.drew ?_ | refine Below.alloc ?_ (by first | exact Nat.le_refl _ | omega | (simp; done) | (simp; omega)) _ | refine Below.setCell ?_ (by first | exact Nat.le_refl _ | omega | (simp; done) | (simp; omega)) _))⟩
    · obtain ⟨a1, a2⟩ := (Fp.inr_iff _ _ _).1 h1
      obtain ⟨b1, b2⟩ := (Fp.inr_iff _ _ _).1 h2
      have hn := Lib.hid (Fp.g_neg n d)
      go_enter Tryd.func10, Tryd.ntmps10
      go_wp2_with (first | (go_at_call 16; refine (l6In_any _ _ _ _).mono ?_; rintro e w' ⟨rfl, rfl⟩) | (go_at_call 17; refine (l5Gcd_any _ _ _ (by omega) (by omega) (by omega) (by omega)).mono ?_; rintro e w' ⟨rfl, rfl⟩))
      all_goals
        go_ret
        exact ⟨ret_bool (by first | (simp; done) | (simp [hn.out]; done)), (by repeat (first | exact Below.refl _ _ | assumption | refine below_drewN ?_ _ | refine Below.drew ?_ | refine Below.alloc ?_ (by first | exact Nat.le_refl _ | omega | (simp; done) | (simp; omega)) _ | refine Below.setCell ?_ (by first | exact Nat.le_refl _ | omega | (simp; done) | (simp; omega)) _))⟩

set_option maxRecDepth 100000 in
set_option maxHeartbeats 400000 in
/-- spec.l5Of -/
theorem l5Of_any (n d : Int) (w : World) (h1 : -4611686018427387904 ≤ n) (h2 : n ≤ 4611686018427387904) (h3 : 1 ≤ d) (h4 : d ≤ 4611686018427387904) :
    Calls Tryd.prog 20 #[.int .i64 n, .int .i64 d] w fun e w' => e = .returned (.agg #[.int .i64 (Fp.rn n d), .int .i64 (Fp.rd n d)]) ∧ Below w.heap.size w w' := by
  have g1 := Fp.g_pos n d h3
  have g2 := Fp.g_le n d h3
  have q1 := Fp.rn_abs n d h3
  have q2 := Fp.rd_pos n d h3
  have q3 := Fp.rd_le n d h3
  have e1 := Fp.rn_tdiv n d
  have e3 : d / Fp.g n d = Fp.rd n d := rfl
  have hn := Fp.g_neg n d
  go_enter Tryd.func20, Tryd.ntmps20
  go_wp2_with (go_at_call 17; refine (l5Gcd_any _ _ _ (by omega) (by omega) (by omega) (by omega)).mono ?_; rintro e w' ⟨rfl, rfl⟩)
  all_goals
    go_region
    go_wp2
    exact bodyPost_ret (v := .agg #[.int .i64 (Fp.rn n d), .int .i64 (Fp.rd n d)]) (by simp [results, Tryd.results20, go_sem]) rfl ⟨rfl, (by repeat (first | exact Below.refl _ _ | assumption | refine below_drewN ?_ _ | refine Below.drew ?_ | refine Below.alloc ?_ (by first | exact Nat.le_refl _ | omega | (simp; done) | (simp; omega)) _ | refine Below.setCell ?_ (by first | exact Nat.le_refl _ | omega | (simp; done) | (simp; omega)) _))⟩




end Go.Proofs.YtleceoplfboefaaDoor
