/-
  The walks of the reference's sums and products of fractions.
-/
import Derived.Test.YtpkkgkepmbpkeaaFracWalks
namespace Go.Proofs.Ytpkkgkepmbpkeaa
set_option linter.unusedVariables false
open Go.RowKit

set_option maxRecDepth 100000 in
set_option maxHeartbeats 400000 in
/-- spec.FracAdd -/
theorem sFracAdd_any (a b c d : Int) (w : World) :
    Calls Try.prog 13 #[.agg #[.int .i64 a, .int .i64 b], .agg #[.int .i64 c, .int .i64 d]] w fun e w' => e = .returned (fres (Fp.add a b c d)) ∧ Below w.heap.size w w' := by
  cases hv1 : Fp.vld a b
  · have hr : Fp.add a b c d = (0, 0, false) := by simp [Fp.add, hv1]
    rw [hr]
    clear hr
    go_enter Try.func13, Try.ntmps13
    go_wp2_with fail
    refine (sFracValid_any a b _).mono ?_
    rintro e w1 ⟨rfl, hb1⟩
    have hB1 : Below w.heap.size w w1 := Below.trans (by repeat (first | exact Below.refl _ _ | assumption | refine below_drewN ?_ _ | refine Below.drew ?_ | refine Below.alloc ?_ (by first | exact Nat.le_refl _ | omega | (simp; done) | (simp; omega)) _ | refine Below.setCell ?_ (by first | exact Nat.le_refl _ | omega | (simp; done) | (simp; omega)) _)) (hb1.mono (by first | omega | (simp; done) | (simp; omega)))
    have hz1 := hb1.size; try simp at hz1; have F1 : Bx w1 [(⟨w.heap.size + 1 + 1, 0, none⟩, .int .i64 0), (⟨w.heap.size + 1 + 1, 1, none⟩, .int .i64 0)] := Bx.later hb1 (by simp [Bx, go_sem]); have G1 := F1; simp only [Bx, and_true] at G1
    go_wp2_with fail
    exact bodyPost_ret (v := fres (0, 0, false)) (by simp [results, Try.results13, go_sem, G1]) rfl ⟨rfl, (by repeat (first | exact Below.refl _ _ | assumption | refine below_drewN ?_ _ | refine Below.drew ?_ | refine Below.alloc ?_ (by first | exact Nat.le_refl _ | omega | (simp; done) | (simp; omega)) _ | refine Below.setCell ?_ (by first | exact Nat.le_refl _ | omega | (simp; done) | (simp; omega)) _))⟩
  · cases hv2 : Fp.vld c d
    · have hr : Fp.add a b c d = (0, 0, false) := by simp [Fp.add, hv1, hv2]
      rw [hr]
      clear hr
      go_enter Try.func13, Try.ntmps13
      go_wp2_with fail
      refine (sFracValid_any a b _).mono ?_
      rintro e w1 ⟨rfl, hb1⟩
      have hB1 : Below w.heap.size w w1 := Below.trans (by repeat (first | exact Below.refl _ _ | assumption | refine below_drewN ?_ _ | refine Below.drew ?_ | refine Below.alloc ?_ (by first | exact Nat.le_refl _ | omega | (simp; done) | (simp; omega)) _ | refine Below.setCell ?_ (by first | exact Nat.le_refl _ | omega | (simp; done) | (simp; omega)) _)) (hb1.mono (by first | omega | (simp; done) | (simp; omega)))
      have hz1 := hb1.size; try simp at hz1; have F1 : Bx w1 [(⟨w.heap.size + 1, 0, none⟩, .int .i64 c), (⟨w.heap.size + 1, 1, none⟩, .int .i64 d), (⟨w.heap.size + 1 + 1, 0, none⟩, .int .i64 0), (⟨w.heap.size + 1 + 1, 1, none⟩, .int .i64 0)] := Bx.later hb1 (by simp [Bx, go_sem]); have G1 := F1; simp only [Bx, and_true] at G1
      go_wp2_with fail
      refine (sFracValid_any c d _).mono ?_
      rintro e w2 ⟨rfl, hb2⟩
      have hB2 : Below w.heap.size w w2 := Below.trans hB1 (hb2.mono (by first | omega | (simp; done) | (simp; omega)))
      have hz2 := hb2.size; have F2 := Bx.later hb2 F1; clear G1; have G2 := F2; simp only [Bx, and_true] at G2
      go_wp2_with fail
      exact bodyPost_ret (v := fres (0, 0, false)) (by simp [results, Try.results13, go_sem, G2]) rfl ⟨rfl, (by repeat (first | exact Below.refl _ _ | assumption | refine below_drewN ?_ _ | refine Below.drew ?_ | refine Below.alloc ?_ (by first | exact Nat.le_refl _ | omega | (simp; done) | (simp; omega)) _ | refine Below.setCell ?_ (by first | exact Nat.le_refl _ | omega | (simp; done) | (simp; omega)) _))⟩
    · have hr : Fp.add a b c d = Fp.redo (a * d + c * b) (b * d) := by simp [Fp.add, hv1, hv2]
      rw [hr]
      clear hr
      obtain ⟨a1, a2, b1, b2, _⟩ := (Fp.vld_iff a b).1 hv1
      obtain ⟨c1, c2, d1, d2, _⟩ := (Fp.vld_iff c d).1 hv2
      have m1 := Fp.mul_bd a d a1 a2 (by omega) d2
      have m2 := Fp.mul_bd c b c1 c2 (by omega) b2
      have m3 := Fp.mul_bd b d (by omega) b2 (by omega) d2
      have m4 := Fp.mul_pos b d b1 d1
      go_enter Try.func13, Try.ntmps13
      go_wp2_with fail
      refine (sFracValid_any a b _).mono ?_
      rintro e w1 ⟨rfl, hb1⟩
      have hB1 : Below w.heap.size w w1 := Below.trans (by repeat (first | exact Below.refl _ _ | assumption | refine below_drewN ?_ _ | refine Below.drew ?_ | refine Below.alloc ?_ (by first | exact Nat.le_refl _ | omega | (simp; done) | (simp; omega)) _ | refine Below.setCell ?_ (by first | exact Nat.le_refl _ | omega | (simp; done) | (simp; omega)) _)) (hb1.mono (by first | omega | (simp; done) | (simp; omega)))
      have hz1 := hb1.size; try simp at hz1; have F1 : Bx w1 [(⟨w.heap.size, 0, none⟩, .int .i64 a), (⟨w.heap.size, 1, none⟩, .int .i64 b), (⟨w.heap.size + 1, 0, none⟩, .int .i64 c), (⟨w.heap.size + 1, 1, none⟩, .int .i64 d), (⟨w.heap.size + 1 + 1, 0, none⟩, .int .i64 0), (⟨w.heap.size + 1 + 1, 1, none⟩, .int .i64 0)] := Bx.later hb1 (by simp [Bx, go_sem]); have G1 := F1; simp only [Bx, and_true] at G1
      go_wp2_with fail
      refine (sFracValid_any c d _).mono ?_
      rintro e w2 ⟨rfl, hb2⟩
      have hB2 : Below w.heap.size w w2 := Below.trans hB1 (hb2.mono (by first | omega | (simp; done) | (simp; omega)))
      have hz2 := hb2.size; have F2 := Bx.later hb2 F1; clear G1; have G2 := F2; simp only [Bx, and_true] at G2
      go_wp2_with fail
      refine (l5Of_any (a * d + c * b) (b * d) _ (by omega) (by omega) (by omega) (by omega)).mono ?_
      rintro e w3 ⟨rfl, hb3⟩
      have hB3 : Below w.heap.size w w3 := Below.trans hB2 (hb3.mono (by first | omega | (simp; done) | (simp; omega)))
      have hz3 := hb3.size; have F3 := Bx.later hb3 F2; clear G2; have G3 := F3; simp only [Bx, and_true] at G3
      have q2 := Fp.rd_pos (a * d + c * b) (b * d) m4
      cases hv3 : Fp.vld (Fp.rn (a * d + c * b) (b * d)) (Fp.rd (a * d + c * b) (b * d))
      · have hr : Fp.redo (a * d + c * b) (b * d) = (0, 0, false) := by simp [Fp.redo, hv3]
        have Hr := Lib.hid hr
        clear hr
        go_wp2_with fail
        refine (sFracValid_any (Fp.rn (a * d + c * b) (b * d)) (Fp.rd (a * d + c * b) (b * d)) _).mono ?_
        rintro e w4 ⟨rfl, hb4⟩
        have hB4 : Below w.heap.size w w4 := Below.trans (by repeat (first | exact Below.refl _ _ | assumption | refine below_drewN ?_ _ | refine Below.drew ?_ | refine Below.alloc ?_ (by first | exact Nat.le_refl _ | omega | (simp; done) | (simp; omega)) _ | refine Below.setCell ?_ (by first | exact Nat.le_refl _ | omega | (simp; done) | (simp; omega)) _)) (hb4.mono (by first | omega | (simp; done) | (simp; omega)))
        have F4 := (Bx.alloc _ F3).later hb4
        have G4 := F4
        simp only [Bx, and_true] at G4
        have hz4 := hb4.size
        simp at hz4
        go_wp2_with fail
        exact bodyPost_ret (v := fres (0, 0, false)) (by simp [results, Try.results13, go_sem, G4]) rfl ⟨by rw [Hr.out], (by repeat (first | exact Below.refl _ _ | assumption | refine below_drewN ?_ _ | refine Below.drew ?_ | refine Below.alloc ?_ (by first | exact Nat.le_refl _ | omega | (simp; done) | (simp; omega)) _ | refine Below.setCell ?_ (by first | exact Nat.le_refl _ | omega | (simp; done) | (simp; omega)) _))⟩
      · have hr : Fp.redo (a * d + c * b) (b * d) = (Fp.rn (a * d + c * b) (b * d), Fp.rd (a * d + c * b) (b * d), true) := by simp [Fp.redo, hv3]
        have Hr := Lib.hid hr
        clear hr
        go_wp2_with fail
        refine (sFracValid_any (Fp.rn (a * d + c * b) (b * d)) (Fp.rd (a * d + c * b) (b * d)) _).mono ?_
        rintro e w4 ⟨rfl, hb4⟩
        have hB4 : Below w.heap.size w w4 := Below.trans (by repeat (first | exact Below.refl _ _ | assumption | refine below_drewN ?_ _ | refine Below.drew ?_ | refine Below.alloc ?_ (by first | exact Nat.le_refl _ | omega | (simp; done) | (simp; omega)) _ | refine Below.setCell ?_ (by first | exact Nat.le_refl _ | omega | (simp; done) | (simp; omega)) _)) (hb4.mono (by first | omega | (simp; done) | (simp; omega)))
        have F4 := (Bx.alloc _ F3).later hb4
        have G4 := F4
        simp only [Bx, and_true] at G4
        have F5 : Bx w4 [(⟨w3.heap.size, 0, none⟩, .int .i64 (Fp.rn (a * d + c * b) (b * d))), (⟨w3.heap.size, 1, none⟩, .int .i64 (Fp.rd (a * d + c * b) (b * d)))] := Bx.later hb4 (by simp [Bx, go_sem])
        have G5 := F5
        simp only [Bx, and_true] at G5
        have hz4 := hb4.size
        simp at hz4
        go_wp2_with fail
        exact bodyPost_ret (v := fres (Fp.rn (a * d + c * b) (b * d), Fp.rd (a * d + c * b) (b * d), true)) (by simp [results, Try.results13, go_sem, G4]) rfl ⟨by rw [Hr.out], (by repeat (first | exact Below.refl _ _ | assumption | refine below_drewN ?_ _ | refine Below.drew ?_ | refine Below.alloc ?_ (by first | exact Nat.le_refl _ | omega | (simp; done) | (simp; omega)) _ | refine Below.setCell ?_ (by first | exact Nat.le_refl _ | omega | (simp; done) | (simp; omega)) _))⟩

set_option maxRecDepth 100000 in
set_option maxHeartbeats 400000 in
/-- spec.FracTimes -/
theorem sFracTimes_any (a b c d : Int) (w : World) :
    Calls Try.prog 17 #[.agg #[.int .i64 a, .int .i64 b], .agg #[.int .i64 c, .int .i64 d]] w fun e w' => e = .returned (fres (Fp.tms a b c d)) ∧ Below w.heap.size w w' := by
  cases hv1 : Fp.vld a b
  · have hr : Fp.tms a b c d = (0, 0, false) := by simp [Fp.tms, hv1]
    rw [hr]
    clear hr
    go_enter Try.func17, Try.ntmps17
    go_wp2_with fail
    refine (sFracValid_any a b _).mono ?_
    rintro e w1 ⟨rfl, hb1⟩
    have hB1 : Below w.heap.size w w1 := Below.trans (by repeat (first | exact Below.refl _ _ | assumption | refine below_drewN ?_ _ | refine Below.drew ?_ | refine Below.alloc ?_ (by first | exact Nat.le_refl _ | omega | (simp; done) | (simp; omega)) _ | refine Below.setCell ?_ (by first | exact Nat.le_refl _ | omega | (simp; done) | (simp; omega)) _)) (hb1.mono (by first | omega | (simp; done) | (simp; omega)))
    have hz1 := hb1.size; try simp at hz1; have F1 : Bx w1 [(⟨w.heap.size + 1 + 1, 0, none⟩, .int .i64 0), (⟨w.heap.size + 1 + 1, 1, none⟩, .int .i64 0)] := Bx.later hb1 (by simp [Bx, go_sem]); have G1 := F1; simp only [Bx, and_true] at G1
    go_wp2_with fail
    exact bodyPost_ret (v := fres (0, 0, false)) (by simp [results, Try.results17, go_sem, G1]) rfl ⟨rfl, (by repeat (first | exact Below.refl _ _ | assumption | refine below_drewN ?_ _ | refine Below.drew ?_ | refine Below.alloc ?_ (by first | exact Nat.le_refl _ | omega | (simp; done) | (simp; omega)) _ | refine Below.setCell ?_ (by first | exact Nat.le_refl _ | omega | (simp; done) | (simp; omega)) _))⟩
  · cases hv2 : Fp.vld c d
    · have hr : Fp.tms a b c d = (0, 0, false) := by simp [Fp.tms, hv1, hv2]
      rw [hr]
      clear hr
      go_enter Try.func17, Try.ntmps17
      go_wp2_with fail
      refine (sFracValid_any a b _).mono ?_
      rintro e w1 ⟨rfl, hb1⟩
      have hB1 : Below w.heap.size w w1 := Below.trans (by repeat (first | exact Below.refl _ _ | assumption | refine below_drewN ?_ _ | refine Below.drew ?_ | refine Below.alloc ?_ (by first | exact Nat.le_refl _ | omega | (simp; done) | (simp; omega)) _ | refine Below.setCell ?_ (by first | exact Nat.le_refl _ | omega | (simp; done) | (simp; omega)) _)) (hb1.mono (by first | omega | (simp; done) | (simp; omega)))
      have hz1 := hb1.size; try simp at hz1; have F1 : Bx w1 [(⟨w.heap.size + 1, 0, none⟩, .int .i64 c), (⟨w.heap.size + 1, 1, none⟩, .int .i64 d), (⟨w.heap.size + 1 + 1, 0, none⟩, .int .i64 0), (⟨w.heap.size + 1 + 1, 1, none⟩, .int .i64 0)] := Bx.later hb1 (by simp [Bx, go_sem]); have G1 := F1; simp only [Bx, and_true] at G1
      go_wp2_with fail
      refine (sFracValid_any c d _).mono ?_
      rintro e w2 ⟨rfl, hb2⟩
      have hB2 : Below w.heap.size w w2 := Below.trans hB1 (hb2.mono (by first | omega | (simp; done) | (simp; omega)))
      have hz2 := hb2.size; have F2 := Bx.later hb2 F1; clear G1; have G2 := F2; simp only [Bx, and_true] at G2
      go_wp2_with fail
      exact bodyPost_ret (v := fres (0, 0, false)) (by simp [results, Try.results17, go_sem, G2]) rfl ⟨rfl, (by repeat (first | exact Below.refl _ _ | assumption | refine below_drewN ?_ _ | refine Below.drew ?_ | refine Below.alloc ?_ (by first | exact Nat.le_refl _ | omega | (simp; done) | (simp; omega)) _ | refine Below.setCell ?_ (by first | exact Nat.le_refl _ | omega | (simp; done) | (simp; omega)) _))⟩
    · have hr : Fp.tms a b c d = Fp.redo (a * c) (b * d) := by simp [Fp.tms, hv1, hv2]
      rw [hr]
      clear hr
      obtain ⟨a1, a2, b1, b2, _⟩ := (Fp.vld_iff a b).1 hv1
      obtain ⟨c1, c2, d1, d2, _⟩ := (Fp.vld_iff c d).1 hv2
      have m1 := Fp.mul_bd a c a1 a2 c1 c2
      have m3 := Fp.mul_bd b d (by omega) b2 (by omega) d2
      have m4 := Fp.mul_pos b d b1 d1
      go_enter Try.func17, Try.ntmps17
      go_wp2_with fail
      refine (sFracValid_any a b _).mono ?_
      rintro e w1 ⟨rfl, hb1⟩
      have hB1 : Below w.heap.size w w1 := Below.trans (by repeat (first | exact Below.refl _ _ | assumption | refine below_drewN ?_ _ | refine Below.drew ?_ | refine Below.alloc ?_ (by first | exact Nat.le_refl _ | omega | (simp; done) | (simp; omega)) _ | refine Below.setCell ?_ (by first | exact Nat.le_refl _ | omega | (simp; done) | (simp; omega)) _)) (hb1.mono (by first | omega | (simp; done) | (simp; omega)))
      have hz1 := hb1.size; try simp at hz1; have F1 : Bx w1 [(⟨w.heap.size, 0, none⟩, .int .i64 a), (⟨w.heap.size, 1, none⟩, .int .i64 b), (⟨w.heap.size + 1, 0, none⟩, .int .i64 c), (⟨w.heap.size + 1, 1, none⟩, .int .i64 d), (⟨w.heap.size + 1 + 1, 0, none⟩, .int .i64 0), (⟨w.heap.size + 1 + 1, 1, none⟩, .int .i64 0)] := Bx.later hb1 (by simp [Bx, go_sem]); have G1 := F1; simp only [Bx, and_true] at G1
      go_wp2_with fail
      refine (sFracValid_any c d _).mono ?_
      rintro e w2 ⟨rfl, hb2⟩
      have hB2 : Below w.heap.size w w2 := Below.trans hB1 (hb2.mono (by first | omega | (simp; done) | (simp; omega)))
      have hz2 := hb2.size; have F2 := Bx.later hb2 F1; clear G1; have G2 := F2; simp only [Bx, and_true] at G2
      go_wp2_with fail
      refine (l5Of_any (a * c) (b * d) _ (by omega) (by omega) (by omega) (by omega)).mono ?_
      rintro e w3 ⟨rfl, hb3⟩
      have hB3 : Below w.heap.size w w3 := Below.trans hB2 (hb3.mono (by first | omega | (simp; done) | (simp; omega)))
      have hz3 := hb3.size; have F3 := Bx.later hb3 F2; clear G2; have G3 := F3; simp only [Bx, and_true] at G3
      have q2 := Fp.rd_pos (a * c) (b * d) m4
      cases hv3 : Fp.vld (Fp.rn (a * c) (b * d)) (Fp.rd (a * c) (b * d))
      · have hr : Fp.redo (a * c) (b * d) = (0, 0, false) := by simp [Fp.redo, hv3]
        have Hr := Lib.hid hr
        clear hr
        go_wp2_with fail
        refine (sFracValid_any (Fp.rn (a * c) (b * d)) (Fp.rd (a * c) (b * d)) _).mono ?_
        rintro e w4 ⟨rfl, hb4⟩
        have hB4 : Below w.heap.size w w4 := Below.trans (by repeat (first | exact Below.refl _ _ | assumption | refine below_drewN ?_ _ | refine Below.drew ?_ | refine Below.alloc ?_ (by first | exact Nat.le_refl _ | omega | (simp; done) | (simp; omega)) _ | refine Below.setCell ?_ (by first | exact Nat.le_refl _ | omega | (simp; done) | (simp; omega)) _)) (hb4.mono (by first | omega | (simp; done) | (simp; omega)))
        have F4 := (Bx.alloc _ F3).later hb4
        have G4 := F4
        simp only [Bx, and_true] at G4
        have hz4 := hb4.size
        simp at hz4
        go_wp2_with fail
        exact bodyPost_ret (v := fres (0, 0, false)) (by simp [results, Try.results17, go_sem, G4]) rfl ⟨by rw [Hr.out], (by repeat (first | exact Below.refl _ _ | assumption | refine below_drewN ?_ _ | refine Below.drew ?_ | refine Below.alloc ?_ (by first | exact Nat.le_refl _ | omega | (simp; done) | (simp; omega)) _ | refine Below.setCell ?_ (by first | exact Nat.le_refl _ | omega | (simp; done) | (simp; omega)) _))⟩
      · have hr : Fp.redo (a * c) (b * d) = (Fp.rn (a * c) (b * d), Fp.rd (a * c) (b * d), true) := by simp [Fp.redo, hv3]
        have Hr := Lib.hid hr
        clear hr
        go_wp2_with fail
        refine (sFracValid_any (Fp.rn (a * c) (b * d)) (Fp.rd (a * c) (b * d)) _).mono ?_
        rintro e w4 ⟨rfl, hb4⟩
        have hB4 : Below w.heap.size w w4 := Below.trans (by repeat (first | exact Below.refl _ _ | assumption | refine below_drewN ?_ _ | refine Below.drew ?_ | refine Below.alloc ?_ (by first | exact Nat.le_refl _ | omega | (simp; done) | (simp; omega)) _ | refine Below.setCell ?_ (by first | exact Nat.le_refl _ | omega | (simp; done) | (simp; omega)) _)) (hb4.mono (by first | omega | (simp; done) | (simp; omega)))
        have F4 := (Bx.alloc _ F3).later hb4
        have G4 := F4
        simp only [Bx, and_true] at G4
        have F5 : Bx w4 [(⟨w3.heap.size, 0, none⟩, .int .i64 (Fp.rn (a * c) (b * d))), (⟨w3.heap.size, 1, none⟩, .int .i64 (Fp.rd (a * c) (b * d)))] := Bx.later hb4 (by simp [Bx, go_sem])
        have G5 := F5
        simp only [Bx, and_true] at G5
        have hz4 := hb4.size
        simp at hz4
        go_wp2_with fail
        exact bodyPost_ret (v := fres (Fp.rn (a * c) (b * d), Fp.rd (a * c) (b * d), true)) (by simp [results, Try.results17, go_sem, G4]) rfl ⟨by rw [Hr.out], (by repeat (first | exact Below.refl _ _ | assumption | refine below_drewN ?_ _ | refine Below.drew ?_ | refine Below.alloc ?_ (by first | exact Nat.le_refl _ | omega | (simp; done) | (simp; omega)) _ | refine Below.setCell ?_ (by first | exact Nat.le_refl _ | omega | (simp; done) | (simp; omega)) _))⟩
end Go.Proofs.Ytpkkgkepmbpkeaa
