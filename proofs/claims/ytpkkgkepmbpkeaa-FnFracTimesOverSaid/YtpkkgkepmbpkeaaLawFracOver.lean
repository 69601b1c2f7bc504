/-
  The walk of FnFracTimesOver.
-/
import Derived.Test.YtpkkgkepmbpkeaaLawFrac
namespace Go.Proofs.Ytpkkgkepmbpkeaa
set_option linter.unusedVariables false
open Go.RowKit

set_option linter.unusedSimpArgs false in
set_option maxRecDepth 100000 in
set_option maxHeartbeats 400000 in
theorem lawFracTimesOver_any (A : Option Addr) (n c : Nat) (w : World) (h : Bytes w w.heap.size A n) (hn : n ≤ 9223372036854775807) (hc : n ≤ c) :
    Calls Try.prog 6 #[.slice A n c] w fun e w' => e = .returned (.bool true) ∧ Below w.heap.size w w' := by
  by_cases hb : 1048576 < n
  · go_enter Try.func6, Try.ntmps6
    go_wp2_with fail
    go_ret
    exact ⟨rfl, Below.refl _ _⟩
  · go_enter Try.func6, Try.ntmps6
    go_wp2_with fail
    refine (drawFracAdd_any A n c w h hn hc).mono ?_
    rintro e w1 ⟨a, b, u, v, rfl, hb1⟩
    obtain ⟨x, y, ok, hadd⟩ : ∃ x y ok, Fp.add a b u v = (x, y, ok) := ⟨_, _, _, rfl⟩
    go_wp2_with fail
    refine (iFracAdd_any a b u v _).mono ?_
    rintro e w2 ⟨rfl, hb2⟩
    rw [hadd]
    have hz1 := hb1.size
    have hz2 := hb2.size
    simp at hz2
    have hB2 : Below w.heap.size w w2 := Below.trans (by repeat (first | exact Below.refl _ _ | assumption | refine below_drewN ?_ _ | refine Below.drew ?_ | refine Below.alloc ?_ (by first | exact Nat.le_refl _ | omega | (simp; done) | (simp; omega)) _ | refine Below.setCell ?_ (by first | exact Nat.le_refl _ | omega | (simp; done) | (simp; omega)) _)) (hb2.mono (by first | omega | (simp; done) | (simp; omega)))
    have F2 : Bx w2 [(⟨w1.heap.size, 0, none⟩, .int .i64 a), (⟨w1.heap.size, 1, none⟩, .int .i64 b), (⟨w1.heap.size + 1, 0, none⟩, .int .i64 u), (⟨w1.heap.size + 1, 1, none⟩, .int .i64 v)] := Bx.later hb2 (by simp [Bx, go_sem])
    have G2 := F2
    simp only [Bx, and_true] at G2
    have l1 : w1.heap.size < w2.heap.size := by omega
    have l2 : w1.heap.size + 1 < w2.heap.size := by omega
    have n1 : ¬ w1.heap.size = w2.heap.size := by omega
    have n2 : ¬ w1.heap.size + 1 = w2.heap.size := by omega
    go_wp2_with fail
    refine (sFracAdd_any a b u v _).mono ?_
    rintro e w3 ⟨rfl, hb3⟩
    rw [hadd]
    have hz3 := hb3.size
    simp at hz3
    have hB3 : Below w.heap.size w w3 := Below.trans (by repeat (first | exact Below.refl _ _ | assumption | refine below_drewN ?_ _ | refine Below.drew ?_ | refine Below.alloc ?_ (by first | exact Nat.le_refl _ | omega | (simp; done) | (simp; omega)) _ | refine Below.setCell ?_ (by first | exact Nat.le_refl _ | omega | (simp; done) | (simp; omega)) _)) (hb3.mono (by first | omega | (simp; done) | (simp; omega)))
    have F3 : Bx w3 [(⟨w1.heap.size, 0, none⟩, .int .i64 a), (⟨w1.heap.size, 1, none⟩, .int .i64 b), (⟨w1.heap.size + 1, 0, none⟩, .int .i64 u), (⟨w1.heap.size + 1, 1, none⟩, .int .i64 v), (⟨w2.heap.size, 0, none⟩, .int .i64 x), (⟨w2.heap.size, 1, none⟩, .int .i64 y)] := Bx.later hb3 (by simp [Bx, go_sem, G2, l1, l2])
    have G3 := F3
    simp only [Bx, and_true] at G3
    clear G2
    have l3 : w1.heap.size < w3.heap.size := by omega
    have l4 : w1.heap.size + 1 < w3.heap.size := by omega
    have l5 : w2.heap.size < w3.heap.size := by omega
    have n3 : ¬ w1.heap.size = w3.heap.size := by omega
    have n4 : ¬ w1.heap.size + 1 = w3.heap.size := by omega
    have n5 : ¬ w2.heap.size = w3.heap.size := by omega
    cases ok
    · go_wp2_with fail
      go_ret
      exact ⟨by simp, (by repeat (first | exact Below.refl _ _ | assumption | refine below_drewN ?_ _ | refine Below.drew ?_ | refine Below.alloc ?_ (by first | exact Nat.le_refl _ | omega | (simp; done) | (simp; omega)) _ | refine Below.setCell ?_ (by first | exact Nat.le_refl _ | omega | (simp; done) | (simp; omega)) _))⟩
    · have hadd' := Lib.hid hadd
      clear hadd
      obtain ⟨x1, y1, o1, ht1⟩ : ∃ x y ok, Fp.tms a b 2 3 = (x, y, ok) := ⟨_, _, _, rfl⟩
      obtain ⟨x2, y2, o2, ht2⟩ : ∃ x y ok, Fp.tms u v 2 3 = (x, y, ok) := ⟨_, _, _, rfl⟩
      obtain ⟨x3, y3, o3, ht3⟩ : ∃ x' y' ok, Fp.tms x y 2 3 = (x', y', ok) := ⟨_, _, _, rfl⟩
      obtain ⟨x4, y4, o4, ht4⟩ : ∃ x y ok, Fp.add x1 y1 x2 y2 = (x, y, ok) := ⟨_, _, _, rfl⟩
      go_wp2_with fail
      refine (iFracTimes_any a b 2 3 _).mono ?_
      rintro e w4 ⟨rfl, hb4⟩
      rw [ht1]
      have hz4 := hb4.size
      simp at hz4
      have hB4 : Below w.heap.size w w4 := Below.trans (by repeat (first | exact Below.refl _ _ | assumption | refine below_drewN ?_ _ | refine Below.drew ?_ | refine Below.alloc ?_ (by first | exact Nat.le_refl _ | omega | (simp; done) | (simp; omega)) _ | refine Below.setCell ?_ (by first | exact Nat.le_refl _ | omega | (simp; done) | (simp; omega)) _)) (hb4.mono (by first | omega | (simp; done) | (simp; omega)))
      have F4 : Bx w4 [(⟨w1.heap.size, 0, none⟩, .int .i64 a), (⟨w1.heap.size, 1, none⟩, .int .i64 b), (⟨w1.heap.size + 1, 0, none⟩, .int .i64 u), (⟨w1.heap.size + 1, 1, none⟩, .int .i64 v), (⟨w2.heap.size, 0, none⟩, .int .i64 x), (⟨w2.heap.size, 1, none⟩, .int .i64 y), (⟨w3.heap.size + 1, 0, none⟩, .int .i64 2), (⟨w3.heap.size + 1, 1, none⟩, .int .i64 3)] := Bx.later hb4 (by simp [Bx, go_sem, G3, l3, l4, l5])
      have G4 := F4
      simp only [Bx, and_true] at G4
      clear G3 F3
      have l21 : w1.heap.size < w4.heap.size := by omega
      have n21 : ¬ w1.heap.size = w4.heap.size := by omega
      have l22 : w1.heap.size + 1 < w4.heap.size := by omega
      have n22 : ¬ w1.heap.size + 1 = w4.heap.size := by omega
      have l23 : w2.heap.size < w4.heap.size := by omega
      have n23 : ¬ w2.heap.size = w4.heap.size := by omega
      have l24 : w3.heap.size + 1 < w4.heap.size := by omega
      have n24 : ¬ w3.heap.size + 1 = w4.heap.size := by omega
      go_wp2_with fail
      refine (iFracTimes_any u v 2 3 _).mono ?_
      rintro e w5 ⟨rfl, hb5⟩
      rw [ht2]
      have hz5 := hb5.size
      simp at hz5
      have hB5 : Below w.heap.size w w5 := Below.trans (by repeat (first | exact Below.refl _ _ | assumption | refine below_drewN ?_ _ | refine Below.drew ?_ | refine Below.alloc ?_ (by first | exact Nat.le_refl _ | omega | (simp; done) | (simp; omega)) _ | refine Below.setCell ?_ (by first | exact Nat.le_refl _ | omega | (simp; done) | (simp; omega)) _)) (hb5.mono (by first | omega | (simp; done) | (simp; omega)))
      have F5 : Bx w5 [(⟨w1.heap.size, 0, none⟩, .int .i64 a), (⟨w1.heap.size, 1, none⟩, .int .i64 b), (⟨w1.heap.size + 1, 0, none⟩, .int .i64 u), (⟨w1.heap.size + 1, 1, none⟩, .int .i64 v), (⟨w2.heap.size, 0, none⟩, .int .i64 x), (⟨w2.heap.size, 1, none⟩, .int .i64 y), (⟨w3.heap.size + 1, 0, none⟩, .int .i64 2), (⟨w3.heap.size + 1, 1, none⟩, .int .i64 3), (⟨w4.heap.size, 0, none⟩, .int .i64 x1), (⟨w4.heap.size, 1, none⟩, .int .i64 y1)] := Bx.later hb5 (by simp [Bx, go_sem, G4, l21, l22, l23, l24])
      have G5 := F5
      simp only [Bx, and_true] at G5
      clear G4 F4
      have l25 : w1.heap.size < w5.heap.size := by omega
      have n25 : ¬ w1.heap.size = w5.heap.size := by omega
      have l26 : w1.heap.size + 1 < w5.heap.size := by omega
      have n26 : ¬ w1.heap.size + 1 = w5.heap.size := by omega
      have l27 : w2.heap.size < w5.heap.size := by omega
      have n27 : ¬ w2.heap.size = w5.heap.size := by omega
      have l28 : w3.heap.size + 1 < w5.heap.size := by omega
      have n28 : ¬ w3.heap.size + 1 = w5.heap.size := by omega
      have l29 : w4.heap.size < w5.heap.size := by omega
      have n29 : ¬ w4.heap.size = w5.heap.size := by omega
      go_wp2_with fail
      refine (iFracTimes_any x y 2 3 _).mono ?_
      rintro e w6 ⟨rfl, hb6⟩
      rw [ht3]
      have hz6 := hb6.size
      simp at hz6
      have hB6 : Below w.heap.size w w6 := Below.trans (by repeat (first | exact Below.refl _ _ | assumption | refine below_drewN ?_ _ | refine Below.drew ?_ | refine Below.alloc ?_ (by first | exact Nat.le_refl _ | omega | (simp; done) | (simp; omega)) _ | refine Below.setCell ?_ (by first | exact Nat.le_refl _ | omega | (simp; done) | (simp; omega)) _)) (hb6.mono (by first | omega | (simp; done) | (simp; omega)))
      have F6 : Bx w6 [(⟨w1.heap.size, 0, none⟩, .int .i64 a), (⟨w1.heap.size, 1, none⟩, .int .i64 b), (⟨w1.heap.size + 1, 0, none⟩, .int .i64 u), (⟨w1.heap.size + 1, 1, none⟩, .int .i64 v), (⟨w2.heap.size, 0, none⟩, .int .i64 x), (⟨w2.heap.size, 1, none⟩, .int .i64 y), (⟨w3.heap.size + 1, 0, none⟩, .int .i64 2), (⟨w3.heap.size + 1, 1, none⟩, .int .i64 3), (⟨w4.heap.size, 0, none⟩, .int .i64 x1), (⟨w4.heap.size, 1, none⟩, .int .i64 y1), (⟨w5.heap.size, 0, none⟩, .int .i64 x2), (⟨w5.heap.size, 1, none⟩, .int .i64 y2)] := Bx.later hb6 (by simp [Bx, go_sem, G5, l25, l26, l27, l28, l29])
      have G6 := F6
      simp only [Bx, and_true] at G6
      clear G5 F5
      have l30 : w1.heap.size < w6.heap.size := by omega
      have n30 : ¬ w1.heap.size = w6.heap.size := by omega
      have l31 : w1.heap.size + 1 < w6.heap.size := by omega
      have n31 : ¬ w1.heap.size + 1 = w6.heap.size := by omega
      have l32 : w2.heap.size < w6.heap.size := by omega
      have n32 : ¬ w2.heap.size = w6.heap.size := by omega
      have l33 : w3.heap.size + 1 < w6.heap.size := by omega
      have n33 : ¬ w3.heap.size + 1 = w6.heap.size := by omega
      have l34 : w4.heap.size < w6.heap.size := by omega
      have n34 : ¬ w4.heap.size = w6.heap.size := by omega
      have l35 : w5.heap.size < w6.heap.size := by omega
      have n35 : ¬ w5.heap.size = w6.heap.size := by omega
      go_wp2_with fail
      refine (iFracAdd_any x1 y1 x2 y2 _).mono ?_
      rintro e w7 ⟨rfl, hb7⟩
      rw [ht4]
      have hz7 := hb7.size
      simp at hz7
      have hB7 : Below w.heap.size w w7 := Below.trans (by repeat (first | exact Below.refl _ _ | assumption | refine below_drewN ?_ _ | refine Below.drew ?_ | refine Below.alloc ?_ (by first | exact Nat.le_refl _ | omega | (simp; done) | (simp; omega)) _ | refine Below.setCell ?_ (by first | exact Nat.le_refl _ | omega | (simp; done) | (simp; omega)) _)) (hb7.mono (by first | omega | (simp; done) | (simp; omega)))
      have F7 : Bx w7 [(⟨w1.heap.size, 0, none⟩, .int .i64 a), (⟨w1.heap.size, 1, none⟩, .int .i64 b), (⟨w1.heap.size + 1, 0, none⟩, .int .i64 u), (⟨w1.heap.size + 1, 1, none⟩, .int .i64 v), (⟨w2.heap.size, 0, none⟩, .int .i64 x), (⟨w2.heap.size, 1, none⟩, .int .i64 y), (⟨w3.heap.size + 1, 0, none⟩, .int .i64 2), (⟨w3.heap.size + 1, 1, none⟩, .int .i64 3), (⟨w4.heap.size, 0, none⟩, .int .i64 x1), (⟨w4.heap.size, 1, none⟩, .int .i64 y1), (⟨w5.heap.size, 0, none⟩, .int .i64 x2), (⟨w5.heap.size, 1, none⟩, .int .i64 y2), (⟨w6.heap.size, 0, none⟩, .int .i64 x3), (⟨w6.heap.size, 1, none⟩, .int .i64 y3)] := Bx.later hb7 (by simp [Bx, go_sem, G6, l30, l31, l32, l33, l34, l35])
      have G7 := F7
      simp only [Bx, and_true] at G7
      clear G6 F6
      have l36 : w1.heap.size < w7.heap.size := by omega
      have n36 : ¬ w1.heap.size = w7.heap.size := by omega
      have l37 : w1.heap.size + 1 < w7.heap.size := by omega
      have n37 : ¬ w1.heap.size + 1 = w7.heap.size := by omega
      have l38 : w2.heap.size < w7.heap.size := by omega
      have n38 : ¬ w2.heap.size = w7.heap.size := by omega
      have l39 : w3.heap.size + 1 < w7.heap.size := by omega
      have n39 : ¬ w3.heap.size + 1 = w7.heap.size := by omega
      have l40 : w4.heap.size < w7.heap.size := by omega
      have n40 : ¬ w4.heap.size = w7.heap.size := by omega
      have l41 : w5.heap.size < w7.heap.size := by omega
      have n41 : ¬ w5.heap.size = w7.heap.size := by omega
      have l42 : w6.heap.size < w7.heap.size := by omega
      have n42 : ¬ w6.heap.size = w7.heap.size := by omega
      have Hz := Lib.hid (Fp.tms_over (x := x) (y := y) (x1 := x1) (y1 := y1) (x2 := x2) (y2 := y2) (x3 := x3) (y3 := y3) (x4 := x4) (y4 := y4) (a := a) (b := b) (c := u) (d := v))
      have H1 := Lib.hid ht1
      have H2 := Lib.hid ht2
      have H3 := Lib.hid ht3
      have H4 := Lib.hid ht4
      clear ht1 ht2 ht3 ht4
      cases o1
      · go_wp2_with fail
        all_goals
          go_ret
          exact ⟨by simp, (by repeat (first | exact Below.refl _ _ | assumption | refine below_drewN ?_ _ | refine Below.drew ?_ | refine Below.alloc ?_ (by first | exact Nat.le_refl _ | omega | (simp; done) | (simp; omega)) _ | refine Below.setCell ?_ (by first | exact Nat.le_refl _ | omega | (simp; done) | (simp; omega)) _))⟩
      cases o2
      · go_wp2_with fail
        all_goals
          go_ret
          exact ⟨by simp, (by repeat (first | exact Below.refl _ _ | assumption | refine below_drewN ?_ _ | refine Below.drew ?_ | refine Below.alloc ?_ (by first | exact Nat.le_refl _ | omega | (simp; done) | (simp; omega)) _ | refine Below.setCell ?_ (by first | exact Nat.le_refl _ | omega | (simp; done) | (simp; omega)) _))⟩
      cases o3
      · go_wp2_with fail
        all_goals
          go_ret
          exact ⟨by simp, (by repeat (first | exact Below.refl _ _ | assumption | refine below_drewN ?_ _ | refine Below.drew ?_ | refine Below.alloc ?_ (by first | exact Nat.le_refl _ | omega | (simp; done) | (simp; omega)) _ | refine Below.setCell ?_ (by first | exact Nat.le_refl _ | omega | (simp; done) | (simp; omega)) _))⟩
      cases o4
      · go_wp2_with fail
        all_goals
          go_ret
          exact ⟨by simp, (by repeat (first | exact Below.refl _ _ | assumption | refine below_drewN ?_ _ | refine Below.drew ?_ | refine Below.alloc ?_ (by first | exact Nat.le_refl _ | omega | (simp; done) | (simp; omega)) _ | refine Below.setCell ?_ (by first | exact Nat.le_refl _ | omega | (simp; done) | (simp; omega)) _))⟩
      obtain ⟨rfl, rfl⟩ := Hz.out hadd'.out H1.out H2.out H3.out H4.out
      go_wp2_with fail
      go_ret
      exact ⟨by simp, (by repeat (first | exact Below.refl _ _ | assumption | refine below_drewN ?_ _ | refine Below.drew ?_ | refine Below.alloc ?_ (by first | exact Nat.le_refl _ | omega | (simp; done) | (simp; omega)) _ | refine Below.setCell ?_ (by first | exact Nat.le_refl _ | omega | (simp; done) | (simp; omega)) _))⟩
end Go.Proofs.Ytpkkgkepmbpkeaa
