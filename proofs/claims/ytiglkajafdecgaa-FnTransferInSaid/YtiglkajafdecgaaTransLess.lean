/-
  The walks of the program's and of the reference's FracLess on valid fractions.
-/
import Derived.Test.YtiglkajafdecgaaFracWalks
namespace Go.Proofs.Ytiglkajafdecgaa
set_option linter.unusedVariables false
open Go.RowKit

set_option maxRecDepth 100000 in
set_option maxHeartbeats 400000 in
/-- impl.FracLess -/
theorem iFracLess_any (a b c d : Int) (w : World) (hv1 : Fp.vld a b = true) (hv2 : Fp.vld c d = true) :
    Calls Try.prog 26 #[.agg #[.int .i64 a, .int .i64 b], .agg #[.int .i64 c, .int .i64 d]] w fun e w' => e = .returned (.bool (Fp.less a b c d)) ∧ Below w.heap.size w w' := by
  have hr : Fp.less a b c d = decide (a * d < c * b) := by simp [Fp.less, hv1, hv2]
  rw [hr]
  clear hr
  obtain ⟨a1, a2, b1, b2, _⟩ := (Fp.vld_iff a b).1 hv1
  obtain ⟨c1, c2, d1, d2, _⟩ := (Fp.vld_iff c d).1 hv2
  have m1 := Fp.mul_bd a d a1 a2 (by omega) d2
  have m2 := Fp.mul_bd c b c1 c2 (by omega) b2
  go_enter Try.func26, Try.ntmps26
  go_wp2_with fail
  refine (iFracValid_any a b _).mono ?_
  rw [hv1]
  rintro e w1 ⟨rfl, hb1⟩
  have hB1 : Below w.heap.size w w1 := Below.trans (by repeat (first | exact Below.refl _ _ | assumption | refine below_drewN ?_ _ | refine Below.drew ?_ | refine Below.alloc ?_ (by first | exact Nat.le_refl _ | omega | (simp; done) | (simp; omega)) _ | refine Below.setCell ?_ (by first | exact Nat.le_refl _ | omega | (simp; done) | (simp; omega)) _)) (hb1.mono (by first | omega | (simp; done) | (simp; omega)))
  have hz1 := hb1.size; try simp at hz1; have F1 : Bx w1 [(⟨w.heap.size, 0, none⟩, .int .i64 a), (⟨w.heap.size, 1, none⟩, .int .i64 b), (⟨w.heap.size + 1, 0, none⟩, .int .i64 c), (⟨w.heap.size + 1, 1, none⟩, .int .i64 d)] := Bx.later hb1 (by simp [Bx, go_sem]); have G1 := F1; simp only [Bx, and_true] at G1
  go_wp2_with fail
  refine (iFracValid_any c d _).mono ?_
  rw [hv2]
  rintro e w2 ⟨rfl, hb2⟩
  have hB2 : Below w.heap.size w w2 := Below.trans hB1 (hb2.mono (by first | omega | (simp; done) | (simp; omega)))
  have hz2 := hb2.size; have F2 := Bx.later hb2 F1; clear G1; have G2 := F2; simp only [Bx, and_true] at G2
  go_wp2_with fail
  go_ret
  exact ⟨rfl, hB2⟩
set_option maxRecDepth 100000 in
set_option maxHeartbeats 400000 in
/-- spec.FracLess -/
theorem sFracLess_any (a b c d : Int) (w : World) (hv1 : Fp.vld a b = true) (hv2 : Fp.vld c d = true) :
    Calls Try.prog 56 #[.agg #[.int .i64 a, .int .i64 b], .agg #[.int .i64 c, .int .i64 d]] w fun e w' => e = .returned (.bool (Fp.less a b c d)) ∧ Below w.heap.size w w' := by
  have hr : Fp.less a b c d = decide (a * d < c * b) := by simp [Fp.less, hv1, hv2]
  rw [hr]
  clear hr
  obtain ⟨a1, a2, b1, b2, _⟩ := (Fp.vld_iff a b).1 hv1
  obtain ⟨c1, c2, d1, d2, _⟩ := (Fp.vld_iff c d).1 hv2
  have m1 := Fp.mul_bd a d a1 a2 (by omega) d2
  have m2 := Fp.mul_bd c b c1 c2 (by omega) b2
  go_enter Try.func56, Try.ntmps56
  go_wp2_with fail
  refine (sFracValid_any a b _).mono ?_
  rw [hv1]
  rintro e w1 ⟨rfl, hb1⟩
  have hB1 : Below w.heap.size w w1 := Below.trans (by repeat (first | exact Below.refl _ _ | assumption | refine below_drewN ?_ _ | refine Below.drew ?_ | refine Below.alloc ?_ (by first | exact Nat.le_refl _ | omega | (simp; done) | (simp; omega)) _ | refine Below.setCell ?_ (by first | exact Nat.le_refl _ | omega | (simp; done) | (simp; omega)) _)) (hb1.mono (by first | omega | (simp; done) | (simp; omega)))
  have hz1 := hb1.size; try simp at hz1; have F1 : Bx w1 [(⟨w.heap.size, 0, none⟩, .int .i64 a), (⟨w.heap.size, 1, none⟩, .int .i64 b), (⟨w.heap.size + 1, 0, none⟩, .int .i64 c), (⟨w.heap.size + 1, 1, none⟩, .int .i64 d)] := Bx.later hb1 (by simp [Bx, go_sem]); have G1 := F1; simp only [Bx, and_true] at G1
  go_wp2_with fail
  refine (sFracValid_any c d _).mono ?_
  rw [hv2]
  rintro e w2 ⟨rfl, hb2⟩
  have hB2 : Below w.heap.size w w2 := Below.trans hB1 (hb2.mono (by first | omega | (simp; done) | (simp; omega)))
  have hz2 := hb2.size; have F2 := Bx.later hb2 F1; clear G1; have G2 := F2; simp only [Bx, and_true] at G2
  go_wp2_with fail
  go_ret
  exact ⟨rfl, hB2⟩
end Go.Proofs.Ytiglkajafdecgaa
