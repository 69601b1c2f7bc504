/-
  The walks of the fractions' functions: what each call of gcd, l5Gcd, reduced, l5Of, FracValid, FracAdd, FracTimes, FracOf, FracLess returns, in the program and in the reference.
-/
import Derived.Test.YtiglkajafdecgaaRows
import Derived.Test.YtiglkajafdecgaaBase
import Derived.Test.YtiglkajafdecgaaFracPlain
import Derived.Test.YtiglkajafdecgaaSmall
import Derived.WalkKit
import Derived.WalkSpells
import Derived.WalkLawsBesides
import Derived.Deep.QuietTactic
import Derived.BigQuiet
import Derived.Lib.Hide
import Derived.Deep.DeepMust
namespace Go.Proofs.Ytiglkajafdecgaa
set_option linter.unusedVariables false
open Go.RowKit


set_option maxRecDepth 100000 in
set_option maxHeartbeats 400000 in
/-- impl.gcd -/
theorem gcd_any (a b : Int) (w : World) (ha : -4611686018427387904 ≤ a) (ha' : a ≤ 4611686018427387904) (hb : -4611686018427387904 ≤ b) (hb' : b ≤ 4611686018427387904) :
    Calls Try.prog 70 #[.int .i64 a, .int .i64 b] w fun e w' => e = .returned (.int .i64 (Fp.g a b)) ∧ ∃ n, w' = w.drewN n := by
  go_enter Try.func70, Try.ntmps70
  go_wp2
  go_loopw [0, 1] (fun x y wr => ∃ c d : Int, x = .int .i64 c ∧ y = .int .i64 d ∧ -4611686018427387904 ≤ c ∧ c ≤ 4611686018427387904 ∧ -4611686018427387904 ≤ d ∧ d ≤ 4611686018427387904 ∧ Fp.g c d = Fp.g a b ∧ ∃ n, wr = w.drewN n)
    (fun _ y _ => (intOf y).natAbs)
  case atStart => exact ⟨a, b, rfl, rfl, ha, ha', hb, hb', rfl, 0, rfl⟩
  case round =>
    obtain ⟨c, d, rfl, rfl, h1, h2, h3, h4, hg, n, rfl⟩ := hrel
    have Hg := Lib.hid hg
    clear hg
    by_cases hd : d = 0
    · subst hd
      go_wp2
      all_goals
        go_ret
        exact ⟨ret_int (by rw [← Hg.out, Fp.g_zero]; omega), n, rfl⟩
    · have hd' : (d != 0) = true := by rw [bne_iff_ne]; omega
      have hd'' : (d == 0) = false := by rw [beq_eq_false_iff_ne]; omega
      have hl := Fp.tmod_lt c d hd
      go_wp2_with fail
      go_quiet (fail)
      go_wp2
      exact ⟨⟨d, c.tmod d, rfl, rfl, h3, h4, by omega, by omega, by rw [Fp.g_step]; exact Hg.out, n + nq, by rw [World.drewN_drewN]⟩, by simpa [intOf] using hl⟩

set_option maxRecDepth 100000 in
set_option maxHeartbeats 400000 in
/-- spec.l5Gcd -/
theorem l5Gcd_any (a b : Int) (w : World) (ha : 0 ≤ a) (ha' : a ≤ 4611686018427387904) (hb : 0 ≤ b) (hb' : b ≤ 4611686018427387904) :
    Calls Try.prog 88 #[.int .i64 a, .int .i64 b] w fun e w' => e = .returned (.int .i64 (Fp.g a b)) ∧ w = w' := by
  go_enter Try.func88, Try.ntmps88
  go_wp2
  go_loop [0, 1] (fun x y => ∃ c d : Int, x = .int .i64 c ∧ y = .int .i64 d ∧ 0 ≤ c ∧ c ≤ 4611686018427387904 ∧ 0 ≤ d ∧ d ≤ 4611686018427387904 ∧ Fp.g c d = Fp.g a b)
    (fun _ y => (intOf y).natAbs)
  case atStart => exact ⟨a, b, rfl, rfl, ha, ha', hb, hb', rfl⟩
  case round =>
    obtain ⟨c, d, rfl, rfl, h1, h2, h3, h4, hg⟩ := hrel
    have Hg := Lib.hid hg
    clear hg
    by_cases hd : d = 0
    · subst hd
      go_wp2
      go_ret
      exact ⟨ret_int (by rw [← Hg.out, Fp.g_zero]; omega), rfl⟩
    · have hl := Fp.tmod_lt c d hd
      have h5 : 0 ≤ c.tmod d := Int.tmod_nonneg _ h1
      have h6 : c.tmod d = c % d := Int.tmod_eq_emod_of_nonneg h1
      have h7 := Fp.g_step c d
      rw [h6] at hl h5 h7
      have H7 := Lib.hid h7
      clear h7 h6
      go_wp2
      go_round
      case rel => exact ⟨d, c % d, rfl, rfl, h3, h4, h5, by omega, H7.out.trans Hg.out⟩
      case measure => simpa [intOf] using hl

set_option maxRecDepth 100000 in
set_option maxHeartbeats 400000 in
/-- impl.FracValid -/
theorem iFracValid_any (n d : Int) (w : World) :
    Calls Try.prog 47 #[.agg #[.int .i64 n, .int .i64 d]] w fun e w' => e = .returned (.bool (Fp.vld n d)) ∧ Below w.heap.size w w' := by
  go_enter Try.func47, Try.ntmps47
  go_wp2_with (go_at_call 70; refine (gcd_any n d _ (by omega) (by omega) (by omega) (by omega)).mono ?_; rintro e w' ⟨rfl, nq, rfl⟩)
  all_goals
    go_ret
    exact ⟨ret_bool (by first | (simp [Fp.vld, *]; done) | (simp [Fp.vld, *]; omega) | (simp [Fp.vld]; omega)), (by repeat (first | exact Below.refl _ _ | assumption | refine below_drewN ?_ _ | refine Below.drew ?_ | refine Below.alloc ?_ (by first | exact Nat.le_refl _ | omega | (simp; done) | (simp; omega)) _ | refine Below.setCell ?_ (by first | exact Nat.le_refl _ | omega | (simp; done) | (simp; omega)) _))⟩

/-- what the functions of fractions hand back: a fraction and whether it is one -/
abbrev fres (t : Int × Int × Bool) : Value := .tuple #[.agg #[.int .i64 t.1, .int .i64 t.2.1], .bool t.2.2]

set_option maxRecDepth 100000 in
set_option maxHeartbeats 400000 in
/-- impl.reduced -/
theorem reduced_any (n d : Int) (w : World) (h1 : -4611686018427387904 ≤ n) (h2 : n ≤ 4611686018427387904) (h3 : 1 ≤ d) (h4 : d ≤ 4611686018427387904) :
    Calls Try.prog 48 #[.int .i64 n, .int .i64 d] w fun e w' => e = .returned (fres (Fp.redo n d)) ∧ Below w.heap.size w w' := by
  have g1 := Fp.g_pos n d h3
  have g2 := Fp.g_le n d h3
  have q1 := Fp.rn_abs n d h3
  have q2 := Fp.rd_pos n d h3
  have q3 := Fp.rd_le n d h3
  have e1 := Fp.rn_tdiv n d
  have e2 := Fp.rd_tdiv n d
  have e3 : d / Fp.g n d = Fp.rd n d := rfl
  by_cases hv : Fp.vld (Fp.rn n d) (Fp.rd n d) = true
  · have hr : Fp.redo n d = (Fp.rn n d, Fp.rd n d, true) := by simp [Fp.redo, hv]
    rw [hr]
    clear hr
    go_enter Try.func48, Try.ntmps48
    go_wp2_with (go_at_call 70; refine (gcd_any n d _ (by omega) (by omega) (by omega) (by omega)).mono ?_; rintro e w' ⟨rfl, nq, rfl⟩)
    go_region
    go_wp2_with (go_at_call 47; refine (iFracValid_any (Fp.rn n d) (Fp.rd n d) _).mono ?_; rintro e w1 ⟨rfl, hb⟩; obtain ⟨hc, hf⟩ := bcell hb; have hz : w.heap.size + 1 < w1.heap.size := by have := hb.size; simp at this; omega)
    have hB : Below w.heap.size w w1 := Below.trans (by repeat (first | exact Below.refl _ _ | assumption | refine below_drewN ?_ _ | refine Below.drew ?_ | refine Below.alloc ?_ (by first | exact Nat.le_refl _ | omega | (simp; done) | (simp; omega)) _ | refine Below.setCell ?_ (by first | exact Nat.le_refl _ | omega | (simp; done) | (simp; omega)) _)) (hb.mono (by simp; omega))
    have c0 : w1.cell? ⟨w.heap.size, 0, none⟩ = some (.int .i64 0) := (hc _ 0 (by simp; omega)).trans (by simp [go_sem])
    have c1 : w1.cell? ⟨w.heap.size, 1, none⟩ = some (.int .i64 0) := (hc _ 1 (by simp; omega)).trans (by simp [go_sem])
    exact bodyPost_ret (v := fres (Fp.rn n d, Fp.rd n d, true)) (by simp [results, Try.results48, go_sem, c0, c1]) rfl ⟨rfl, (by repeat (first | exact Below.refl _ _ | assumption | refine below_drewN ?_ _ | refine Below.drew ?_ | refine Below.alloc ?_ (by first | exact Nat.le_refl _ | omega | (simp; done) | (simp; omega)) _ | refine Below.setCell ?_ (by first | exact Nat.le_refl _ | omega | (simp; done) | (simp; omega)) _))⟩
  · have hv : Fp.vld (Fp.rn n d) (Fp.rd n d) = false := by simpa using hv
    have hr : Fp.redo n d = (0, 0, false) := by simp [Fp.redo, hv]
    rw [hr]
    clear hr
    go_enter Try.func48, Try.ntmps48
    go_wp2_with (go_at_call 70; refine (gcd_any n d _ (by omega) (by omega) (by omega) (by omega)).mono ?_; rintro e w' ⟨rfl, nq, rfl⟩)
    go_region
    go_wp2_with (go_at_call 47; refine (iFracValid_any (Fp.rn n d) (Fp.rd n d) _).mono ?_; rintro e w1 ⟨rfl, hb⟩; obtain ⟨hc, hf⟩ := bcell hb; have hz : w.heap.size + 1 < w1.heap.size := by have := hb.size; simp at this; omega)
    have hB : Below w.heap.size w w1 := Below.trans (by repeat (first | exact Below.refl _ _ | assumption | refine below_drewN ?_ _ | refine Below.drew ?_ | refine Below.alloc ?_ (by first | exact Nat.le_refl _ | omega | (simp; done) | (simp; omega)) _ | refine Below.setCell ?_ (by first | exact Nat.le_refl _ | omega | (simp; done) | (simp; omega)) _)) (hb.mono (by simp; omega))
    have c0 : w1.cell? ⟨w.heap.size, 0, none⟩ = some (.int .i64 0) := (hc _ 0 (by simp; omega)).trans (by simp [go_sem])
    have c1 : w1.cell? ⟨w.heap.size, 1, none⟩ = some (.int .i64 0) := (hc _ 1 (by simp; omega)).trans (by simp [go_sem])
    exact bodyPost_ret (v := fres (0, 0, false)) (by simp [results, Try.results48, go_sem, c0, c1]) rfl ⟨rfl, (by repeat (first | exact Below.refl _ _ | assumption | refine below_drewN ?_ _ | refine Below.drew ?_ | refine Below.alloc ?_ (by first | exact Nat.le_refl _ | omega | (simp; done) | (simp; omega)) _ | refine Below.setCell ?_ (by first | exact Nat.le_refl _ | omega | (simp; done) | (simp; omega)) _))⟩

set_option maxRecDepth 100000 in
set_option maxHeartbeats 400000 in
/-- spec.FracValid -/
theorem sFracValid_any (n d : Int) (w : World) :
    Calls Try.prog 79 #[.agg #[.int .i64 n, .int .i64 d]] w fun e w' => e = .returned (.bool (Fp.vld n d)) ∧ Below w.heap.size w w' := by
  rw [Fp.vld_inr]
  cases h1 : Fp.inr n (-9999999) 9999999
  · go_enter Try.func79, Try.ntmps79
    go_wp2_with (go_at_call 52; refine (l6In_any _ _ _ _).mono ?_; rintro e w' ⟨rfl, rfl⟩)
    go_ret
    exact ⟨ret_bool (by simp), (by repeat (first | exact Below.refl _ _ | assumption | refine below_drewN ?_ _ | refine Below.drew ?_ | refine Below.alloc ?_ (by first | exact Nat.le_refl _ | omega | (simp; done) | (simp; omega)) _ | refine Below.setCell ?_ (by first | exact Nat.le_refl _ | omega | (simp; done) | (simp; omega)) _))⟩
  · cases h2 : Fp.inr d 1 9999999
    · go_enter Try.func79, Try.ntmps79
      go_wp2_with (go_at_call 52; refine (l6In_any _ _ _ _).mono ?_; rintro e w' ⟨rfl, rfl⟩)
      go_ret
      exact ⟨ret_bool (by simp), (by repeat (first | exact Below.refl _ _ | assumption | refine below_drewN ?_ _ | refine Below.drew ?_ | refine Below.alloc ?_ (by first | exact Nat.le_refl _ | omega | (simp; done) | (simp; omega)) _ | refine Below.setCell ?_ (by first | exact Nat.le_refl _ | omega | (simp; done) | (simp; omega)) _))⟩
    · obtain ⟨a1, a2⟩ := (Fp.inr_iff _ _ _).1 h1
      obtain ⟨b1, b2⟩ := (Fp.inr_iff _ _ _).1 h2
      have hn := Lib.hid (Fp.g_neg n d)
      go_enter Try.func79, Try.ntmps79
      go_wp2_with (first | (go_at_call 52; refine (l6In_any _ _ _ _).mono ?_; rintro e w' ⟨rfl, rfl⟩) | (go_at_call 88; refine (l5Gcd_any _ _ _ (by omega) (by omega) (by omega) (by omega)).mono ?_; rintro e w' ⟨rfl, rfl⟩))
      all_goals
        go_ret
        exact ⟨ret_bool (by first | (simp; done) | (simp [hn.out]; done)), (by repeat (first | exact Below.refl _ _ | assumption | refine below_drewN ?_ _ | refine Below.drew ?_ | refine Below.alloc ?_ (by first | exact Nat.le_refl _ | omega | (simp; done) | (simp; omega)) _ | refine Below.setCell ?_ (by first | exact Nat.le_refl _ | omega | (simp; done) | (simp; omega)) _))⟩

set_option maxRecDepth 100000 in
set_option maxHeartbeats 400000 in
/-- spec.l5Of -/
theorem l5Of_any (n d : Int) (w : World) (h1 : -4611686018427387904 ≤ n) (h2 : n ≤ 4611686018427387904) (h3 : 1 ≤ d) (h4 : d ≤ 4611686018427387904) :
    Calls Try.prog 78 #[.int .i64 n, .int .i64 d] w fun e w' => e = .returned (.agg #[.int .i64 (Fp.rn n d), .int .i64 (Fp.rd n d)]) ∧ Below w.heap.size w w' := by
  have g1 := Fp.g_pos n d h3
  have g2 := Fp.g_le n d h3
  have q1 := Fp.rn_abs n d h3
  have q2 := Fp.rd_pos n d h3
  have q3 := Fp.rd_le n d h3
  have e1 := Fp.rn_tdiv n d
  have e3 : d / Fp.g n d = Fp.rd n d := rfl
  have hn := Fp.g_neg n d
  go_enter Try.func78, Try.ntmps78
  go_wp2_with (go_at_call 88; refine (l5Gcd_any _ _ _ (by omega) (by omega) (by omega) (by omega)).mono ?_; rintro e w' ⟨rfl, rfl⟩)
  all_goals
    go_region
    go_wp2
    exact bodyPost_ret (v := .agg #[.int .i64 (Fp.rn n d), .int .i64 (Fp.rd n d)]) (by simp [results, Try.results78, go_sem]) rfl ⟨rfl, (by repeat (first | exact Below.refl _ _ | assumption | refine below_drewN ?_ _ | refine Below.drew ?_ | refine Below.alloc ?_ (by first | exact Nat.le_refl _ | omega | (simp; done) | (simp; omega)) _ | refine Below.setCell ?_ (by first | exact Nat.le_refl _ | omega | (simp; done) | (simp; omega)) _))⟩

set_option maxRecDepth 100000 in
set_option maxHeartbeats 400000 in
/-- impl.FracAdd -/
theorem iFracAdd_any (a b c d : Int) (w : World) :
    Calls Try.prog 29 #[.agg #[.int .i64 a, .int .i64 b], .agg #[.int .i64 c, .int .i64 d]] w fun e w' => e = .returned (fres (Fp.add a b c d)) ∧ Below w.heap.size w w' := by
  cases hv1 : Fp.vld a b
  · have hr : Fp.add a b c d = (0, 0, false) := by simp [Fp.add, hv1]
    rw [hr]
    clear hr
    go_enter Try.func29, Try.ntmps29
    go_wp2_with fail
    refine (iFracValid_any a b _).mono ?_
    rintro e w1 ⟨rfl, hb1⟩
    have hB1 : Below w.heap.size w w1 := Below.trans (by repeat (first | exact Below.refl _ _ | assumption | refine below_drewN ?_ _ | refine Below.drew ?_ | refine Below.alloc ?_ (by first | exact Nat.le_refl _ | omega | (simp; done) | (simp; omega)) _ | refine Below.setCell ?_ (by first | exact Nat.le_refl _ | omega | (simp; done) | (simp; omega)) _)) (hb1.mono (by first | omega | (simp; done) | (simp; omega)))
    have hz1 := hb1.size; try simp at hz1; have F1 : Bx w1 [(⟨w.heap.size + 1 + 1, 0, none⟩, .int .i64 0), (⟨w.heap.size + 1 + 1, 1, none⟩, .int .i64 0)] := Bx.later hb1 (by simp [Bx, go_sem]); have G1 := F1; simp only [Bx, and_true] at G1
    go_wp2_with fail
    exact bodyPost_ret (v := fres (0, 0, false)) (by simp [results, Try.results29, go_sem, G1]) rfl ⟨rfl, (by repeat (first | exact Below.refl _ _ | assumption | refine below_drewN ?_ _ | refine Below.drew ?_ | refine Below.alloc ?_ (by first | exact Nat.le_refl _ | omega | (simp; done) | (simp; omega)) _ | refine Below.setCell ?_ (by first | exact Nat.le_refl _ | omega | (simp; done) | (simp; omega)) _))⟩
  · cases hv2 : Fp.vld c d
    · have hr : Fp.add a b c d = (0, 0, false) := by simp [Fp.add, hv1, hv2]
      rw [hr]
      clear hr
      go_enter Try.func29, Try.ntmps29
      go_wp2_with fail
      refine (iFracValid_any a b _).mono ?_
      rintro e w1 ⟨rfl, hb1⟩
      have hB1 : Below w.heap.size w w1 := Below.trans (by repeat (first | exact Below.refl _ _ | assumption | refine below_drewN ?_ _ | refine Below.drew ?_ | refine Below.alloc ?_ (by first | exact Nat.le_refl _ | omega | (simp; done) | (simp; omega)) _ | refine Below.setCell ?_ (by first | exact Nat.le_refl _ | omega | (simp; done) | (simp; omega)) _)) (hb1.mono (by first | omega | (simp; done) | (simp; omega)))
      have hz1 := hb1.size; try simp at hz1; have F1 : Bx w1 [(⟨w.heap.size + 1, 0, none⟩, .int .i64 c), (⟨w.heap.size + 1, 1, none⟩, .int .i64 d), (⟨w.heap.size + 1 + 1, 0, none⟩, .int .i64 0), (⟨w.heap.size + 1 + 1, 1, none⟩, .int .i64 0)] := Bx.later hb1 (by simp [Bx, go_sem]); have G1 := F1; simp only [Bx, and_true] at G1
      go_wp2_with fail
      refine (iFracValid_any c d _).mono ?_
      rintro e w2 ⟨rfl, hb2⟩
      have hB2 : Below w.heap.size w w2 := Below.trans hB1 (hb2.mono (by first | omega | (simp; done) | (simp; omega)))
      have hz2 := hb2.size; have F2 := Bx.later hb2 F1; clear G1; have G2 := F2; simp only [Bx, and_true] at G2
      go_wp2_with fail
      exact bodyPost_ret (v := fres (0, 0, false)) (by simp [results, Try.results29, go_sem, G2]) rfl ⟨rfl, (by repeat (first | exact Below.refl _ _ | assumption | refine below_drewN ?_ _ | refine Below.drew ?_ | refine Below.alloc ?_ (by first | exact Nat.le_refl _ | omega | (simp; done) | (simp; omega)) _ | refine Below.setCell ?_ (by first | exact Nat.le_refl _ | omega | (simp; done) | (simp; omega)) _))⟩
    · have hr : Fp.add a b c d = Fp.redo (a * d + c * b) (b * d) := by simp [Fp.add, hv1, hv2]
      rw [hr]
      clear hr
      obtain ⟨a1, a2, b1, b2, _⟩ := (Fp.vld_iff a b).1 hv1
      obtain ⟨c1, c2, d1, d2, _⟩ := (Fp.vld_iff c d).1 hv2
      have m1 := Fp.mul_bd a d a1 a2 (by omega) d2
      have m2 := Fp.mul_bd c b c1 c2 (by omega) b2
      have m3 := Fp.mul_bd b d (by omega) b2 (by omega) d2
      have m4 := Fp.mul_pos b d b1 d1
      go_enter Try.func29, Try.ntmps29
      go_wp2_with fail
      refine (iFracValid_any a b _).mono ?_
      rintro e w1 ⟨rfl, hb1⟩
      have hB1 : Below w.heap.size w w1 := Below.trans (by repeat (first | exact Below.refl _ _ | assumption | refine below_drewN ?_ _ | refine Below.drew ?_ | refine Below.alloc ?_ (by first | exact Nat.le_refl _ | omega | (simp; done) | (simp; omega)) _ | refine Below.setCell ?_ (by first | exact Nat.le_refl _ | omega | (simp; done) | (simp; omega)) _)) (hb1.mono (by first | omega | (simp; done) | (simp; omega)))
      have hz1 := hb1.size; try simp at hz1; have F1 : Bx w1 [(⟨w.heap.size, 0, none⟩, .int .i64 a), (⟨w.heap.size, 1, none⟩, .int .i64 b), (⟨w.heap.size + 1, 0, none⟩, .int .i64 c), (⟨w.heap.size + 1, 1, none⟩, .int .i64 d), (⟨w.heap.size + 1 + 1, 0, none⟩, .int .i64 0), (⟨w.heap.size + 1 + 1, 1, none⟩, .int .i64 0)] := Bx.later hb1 (by simp [Bx, go_sem]); have G1 := F1; simp only [Bx, and_true] at G1
      go_wp2_with fail
      refine (iFracValid_any c d _).mono ?_
      rintro e w2 ⟨rfl, hb2⟩
      have hB2 : Below w.heap.size w w2 := Below.trans hB1 (hb2.mono (by first | omega | (simp; done) | (simp; omega)))
      have hz2 := hb2.size; have F2 := Bx.later hb2 F1; clear G1; have G2 := F2; simp only [Bx, and_true] at G2
      go_wp2_with fail
      refine (reduced_any (a * d + c * b) (b * d) _ (by omega) (by omega) (by omega) (by omega)).mono ?_
      rintro e w3 ⟨rfl, hb3⟩
      have hB3 : Below w.heap.size w w3 := Below.trans hB2 (hb3.mono (by first | omega | (simp; done) | (simp; omega)))
      have hz3 := hb3.size; have F3 := Bx.later hb3 F2; clear G2; have G3 := F3; simp only [Bx, and_true] at G3
      go_wp2_with fail
      exact bodyPost_ret (v := fres (Fp.redo (a * d + c * b) (b * d))) (by simp [results, Try.results29, go_sem, G3]) rfl ⟨rfl, (by repeat (first | exact Below.refl _ _ | assumption | refine below_drewN ?_ _ | refine Below.drew ?_ | refine Below.alloc ?_ (by first | exact Nat.le_refl _ | omega | (simp; done) | (simp; omega)) _ | refine Below.setCell ?_ (by first | exact Nat.le_refl _ | omega | (simp; done) | (simp; omega)) _))⟩

set_option maxRecDepth 100000 in
set_option maxHeartbeats 400000 in
/-- impl.FracTimes -/
theorem iFracTimes_any (a b c d : Int) (w : World) :
    Calls Try.prog 85 #[.agg #[.int .i64 a, .int .i64 b], .agg #[.int .i64 c, .int .i64 d]] w fun e w' => e = .returned (fres (Fp.tms a b c d)) ∧ Below w.heap.size w w' := by
  cases hv1 : Fp.vld a b
  · have hr : Fp.tms a b c d = (0, 0, false) := by simp [Fp.tms, hv1]
    rw [hr]
    clear hr
    go_enter Try.func85, Try.ntmps85
    go_wp2_with fail
    refine (iFracValid_any a b _).mono ?_
    rintro e w1 ⟨rfl, hb1⟩
    have hB1 : Below w.heap.size w w1 := Below.trans (by repeat (first | exact Below.refl _ _ | assumption | refine below_drewN ?_ _ | refine Below.drew ?_ | refine Below.alloc ?_ (by first | exact Nat.le_refl _ | omega | (simp; done) | (simp; omega)) _ | refine Below.setCell ?_ (by first | exact Nat.le_refl _ | omega | (simp; done) | (simp; omega)) _)) (hb1.mono (by first | omega | (simp; done) | (simp; omega)))
    have hz1 := hb1.size; try simp at hz1; have F1 : Bx w1 [(⟨w.heap.size + 1 + 1, 0, none⟩, .int .i64 0), (⟨w.heap.size + 1 + 1, 1, none⟩, .int .i64 0)] := Bx.later hb1 (by simp [Bx, go_sem]); have G1 := F1; simp only [Bx, and_true] at G1
    go_wp2_with fail
    exact bodyPost_ret (v := fres (0, 0, false)) (by simp [results, Try.results85, go_sem, G1]) rfl ⟨rfl, (by repeat (first | exact Below.refl _ _ | assumption | refine below_drewN ?_ _ | refine Below.drew ?_ | refine Below.alloc ?_ (by first | exact Nat.le_refl _ | omega | (simp; done) | (simp; omega)) _ | refine Below.setCell ?_ (by first | exact Nat.le_refl _ | omega | (simp; done) | (simp; omega)) _))⟩
  · cases hv2 : Fp.vld c d
    · have hr : Fp.tms a b c d = (0, 0, false) := by simp [Fp.tms, hv1, hv2]
      rw [hr]
      clear hr
      go_enter Try.func85, Try.ntmps85
      go_wp2_with fail
      refine (iFracValid_any a b _).mono ?_
      rintro e w1 ⟨rfl, hb1⟩
      have hB1 : Below w.heap.size w w1 := Below.trans (by repeat (first | exact Below.refl _ _ | assumption | refine below_drewN ?_ _ | refine Below.drew ?_ | refine Below.alloc ?_ (by first | exact Nat.le_refl _ | omega | (simp; done) | (simp; omega)) _ | refine Below.setCell ?_ (by first | exact Nat.le_refl _ | omega | (simp; done) | (simp; omega)) _)) (hb1.mono (by first | omega | (simp; done) | (simp; omega)))
      have hz1 := hb1.size; try simp at hz1; have F1 : Bx w1 [(⟨w.heap.size + 1, 0, none⟩, .int .i64 c), (⟨w.heap.size + 1, 1, none⟩, .int .i64 d), (⟨w.heap.size + 1 + 1, 0, none⟩, .int .i64 0), (⟨w.heap.size + 1 + 1, 1, none⟩, .int .i64 0)] := Bx.later hb1 (by simp [Bx, go_sem]); have G1 := F1; simp only [Bx, and_true] at G1
      go_wp2_with fail
      refine (iFracValid_any c d _).mono ?_
      rintro e w2 ⟨rfl, hb2⟩
      have hB2 : Below w.heap.size w w2 := Below.trans hB1 (hb2.mono (by first | omega | (simp; done) | (simp; omega)))
      have hz2 := hb2.size; have F2 := Bx.later hb2 F1; clear G1; have G2 := F2; simp only [Bx, and_true] at G2
      go_wp2_with fail
      exact bodyPost_ret (v := fres (0, 0, false)) (by simp [results, Try.results85, go_sem, G2]) rfl ⟨rfl, (by repeat (first | exact Below.refl _ _ | assumption | refine below_drewN ?_ _ | refine Below.drew ?_ | refine Below.alloc ?_ (by first | exact Nat.le_refl _ | omega | (simp; done) | (simp; omega)) _ | refine Below.setCell ?_ (by first | exact Nat.le_refl _ | omega | (simp; done) | (simp; omega)) _))⟩
    · have hr : Fp.tms a b c d = Fp.redo (a * c) (b * d) := by simp [Fp.tms, hv1, hv2]
      rw [hr]
      clear hr
      obtain ⟨a1, a2, b1, b2, _⟩ := (Fp.vld_iff a b).1 hv1
      obtain ⟨c1, c2, d1, d2, _⟩ := (Fp.vld_iff c d).1 hv2
      have m1 := Fp.mul_bd a c a1 a2 c1 c2
      have m3 := Fp.mul_bd b d (by omega) b2 (by omega) d2
      have m4 := Fp.mul_pos b d b1 d1
      go_enter Try.func85, Try.ntmps85
      go_wp2_with fail
      refine (iFracValid_any a b _).mono ?_
      rintro e w1 ⟨rfl, hb1⟩
      have hB1 : Below w.heap.size w w1 := Below.trans (by repeat (first | exact Below.refl _ _ | assumption | refine below_drewN ?_ _ | refine Below.drew ?_ | refine Below.alloc ?_ (by first | exact Nat.le_refl _ | omega | (simp; done) | (simp; omega)) _ | refine Below.setCell ?_ (by first | exact Nat.le_refl _ | omega | (simp; done) | (simp; omega)) _)) (hb1.mono (by first | omega | (simp; done) | (simp; omega)))
      have hz1 := hb1.size; try simp at hz1; have F1 : Bx w1 [(⟨w.heap.size, 0, none⟩, .int .i64 a), (⟨w.heap.size, 1, none⟩, .int .i64 b), (⟨w.heap.size + 1, 0, none⟩, .int .i64 c), (⟨w.heap.size + 1, 1, none⟩, .int .i64 d), (⟨w.heap.size + 1 + 1, 0, none⟩, .int .i64 0), (⟨w.heap.size + 1 + 1, 1, none⟩, .int .i64 0)] := Bx.later hb1 (by simp [Bx, go_sem]); have G1 := F1; simp only [Bx, and_true] at G1
      go_wp2_with fail
      refine (iFracValid_any c d _).mono ?_
      rintro e w2 ⟨rfl, hb2⟩
      have hB2 : Below w.heap.size w w2 := Below.trans hB1 (hb2.mono (by first | omega | (simp; done) | (simp; omega)))
      have hz2 := hb2.size; have F2 := Bx.later hb2 F1; clear G1; have G2 := F2; simp only [Bx, and_true] at G2
      go_wp2_with fail
      refine (reduced_any (a * c) (b * d) _ (by omega) (by omega) (by omega) (by omega)).mono ?_
      rintro e w3 ⟨rfl, hb3⟩
      have hB3 : Below w.heap.size w w3 := Below.trans hB2 (hb3.mono (by first | omega | (simp; done) | (simp; omega)))
      have hz3 := hb3.size; have F3 := Bx.later hb3 F2; clear G2; have G3 := F3; simp only [Bx, and_true] at G3
      go_wp2_with fail
      exact bodyPost_ret (v := fres (Fp.redo (a * c) (b * d))) (by simp [results, Try.results85, go_sem, G3]) rfl ⟨rfl, (by repeat (first | exact Below.refl _ _ | assumption | refine below_drewN ?_ _ | refine Below.drew ?_ | refine Below.alloc ?_ (by first | exact Nat.le_refl _ | omega | (simp; done) | (simp; omega)) _ | refine Below.setCell ?_ (by first | exact Nat.le_refl _ | omega | (simp; done) | (simp; omega)) _))⟩

set_option maxRecDepth 100000 in
set_option maxHeartbeats 400000 in
/-- impl.FracOf -/
theorem iFracOf_any (n d : Int) (w : World) :
    Calls Try.prog 86 #[.int .i64 n, .int .i64 d] w fun e w' => e = .returned (fres (Fp.ofn n d)) ∧ Below w.heap.size w w' := by
  cases hv : Fp.rng n d
  · have hr : Fp.ofn n d = (0, 0, false) := by simp [Fp.ofn, hv]
    rw [hr]
    clear hr
    have hv' : n < -9999999 ∨ 9999999 < n ∨ d < 1 ∨ 9999999 < d := by
      have h := mt (Fp.rng_iff n d).2 (by simp [hv])
      omega
    have H := Lib.hid hv'
    clear hv'
    go_enter Try.func86, Try.ntmps86
    go_wp2_with fail
    all_goals first | (exfalso; have := H.out; omega) | exact bodyPost_ret (v := fres (0, 0, false)) (by simp [results, Try.results86, go_sem]) rfl ⟨rfl, (by repeat (first | exact Below.refl _ _ | assumption | refine below_drewN ?_ _ | refine Below.drew ?_ | refine Below.alloc ?_ (by first | exact Nat.le_refl _ | omega | (simp; done) | (simp; omega)) _ | refine Below.setCell ?_ (by first | exact Nat.le_refl _ | omega | (simp; done) | (simp; omega)) _))⟩
  · have hr : Fp.ofn n d = Fp.redo n d := by simp [Fp.ofn, hv]
    rw [hr]
    clear hr
    obtain ⟨a1, a2, b1, b2⟩ := (Fp.rng_iff n d).1 hv
    go_enter Try.func86, Try.ntmps86
    go_wp2_with fail
    refine (reduced_any n d _ (by omega) (by omega) (by omega) (by omega)).mono ?_
    rintro e w1 ⟨rfl, hb1⟩
    have hB1 : Below w.heap.size w w1 := Below.trans (by repeat (first | exact Below.refl _ _ | assumption | refine below_drewN ?_ _ | refine Below.drew ?_ | refine Below.alloc ?_ (by first | exact Nat.le_refl _ | omega | (simp; done) | (simp; omega)) _ | refine Below.setCell ?_ (by first | exact Nat.le_refl _ | omega | (simp; done) | (simp; omega)) _)) (hb1.mono (by first | omega | (simp; done) | (simp; omega)))
    have hz1 := hb1.size; try simp at hz1; have F1 : Bx w1 [(⟨w.heap.size, 0, none⟩, .int .i64 0), (⟨w.heap.size, 1, none⟩, .int .i64 0)] := Bx.later hb1 (by simp [Bx, go_sem]); have G1 := F1; simp only [Bx, and_true] at G1
    go_wp2_with fail
    exact bodyPost_ret (v := fres (Fp.redo n d)) (by simp [results, Try.results86, go_sem, G1]) rfl ⟨rfl, (by repeat (first | exact Below.refl _ _ | assumption | refine below_drewN ?_ _ | refine Below.drew ?_ | refine Below.alloc ?_ (by first | exact Nat.le_refl _ | omega | (simp; done) | (simp; omega)) _ | refine Below.setCell ?_ (by first | exact Nat.le_refl _ | omega | (simp; done) | (simp; omega)) _))⟩

end Go.Proofs.Ytiglkajafdecgaa
