/-
  The walks of FnFracAddText, FnFracTimes, FnFracTimesOver.
-/
import Derived.Test.YtpkkgkepmbpkeaaLawFracPlain
import Derived.Test.YtpkkgkepmbpkeaaFracSpec
import Derived.Test.YtpkkgkepmbpkeaaDrawFracAdd
namespace Go.Proofs.Ytpkkgkepmbpkeaa
set_option linter.unusedVariables false
open Go.RowKit

theorem fadd_bd {a b c d x y : Int} (h : Fp.add a b c d = (x, y, true)) : (-99999980000001 ≤ a * d ∧ a * d ≤ 99999980000001) ∧ (-99999980000001 ≤ c * b ∧ c * b ≤ 99999980000001) ∧ (-99999980000001 ≤ b * d ∧ b * d ≤ 99999980000001) := by
  obtain ⟨va, vc, _⟩ := Fp.add_yes h
  obtain ⟨a0, a1, b0, b1, _⟩ := (Fp.vld_iff _ _).1 va
  obtain ⟨c0, c1, d0, d1, _⟩ := (Fp.vld_iff _ _).1 vc
  exact ⟨Fp.mul_bd _ _ a0 a1 (by omega) d1, Fp.mul_bd _ _ c0 c1 (by omega) b1, Fp.mul_bd _ _ (by omega) b1 (by omega) d1⟩
theorem ftms_bd {a b c d x y : Int} (h : Fp.tms a b c d = (x, y, true)) : (-99999980000001 ≤ a * c ∧ a * c ≤ 99999980000001) ∧ (-99999980000001 ≤ b * d ∧ b * d ≤ 99999980000001) := by
  obtain ⟨va, vc, _⟩ := Fp.tms_yes h
  obtain ⟨a0, a1, b0, b1, _⟩ := (Fp.vld_iff _ _).1 va
  obtain ⟨c0, c1, d0, d1, _⟩ := (Fp.vld_iff _ _).1 vc
  exact ⟨Fp.mul_bd _ _ a0 a1 c0 c1, Fp.mul_bd _ _ (by omega) b1 (by omega) d1⟩

set_option maxRecDepth 100000 in
set_option maxHeartbeats 400000 in
theorem lawFracAddText_any (A : Option Addr) (n c : Nat) (w : World) (h : Bytes w w.heap.size A n) (hn : n ≤ 9223372036854775807) (hc : n ≤ c) :
    Calls Try.prog 5 #[.slice A n c] w fun e w' => e = .returned (.bool true) ∧ Below w.heap.size w w' := by
  by_cases hb : 1048576 < n
  · go_enter Try.func5, Try.ntmps5
    go_wp2_with fail
    go_ret
    exact ⟨rfl, Below.refl _ _⟩
  · go_enter Try.func5, Try.ntmps5
    go_wp2_with fail
    refine (drawFracAdd_any A n c w h hn hc).mono ?_
    rintro e w1 ⟨a, b, u, v, rfl, hb1⟩
    obtain ⟨x, y, ok, hadd⟩ : ∃ x y ok, Fp.add a b u v = (x, y, ok) := ⟨_, _, _, rfl⟩
    go_wp2_with fail
    refine (iFracAdd_any a b u v _).mono ?_
    rintro e w2 ⟨rfl, hb2⟩
    rw [hadd]
    have hz1 := hb1.size
    have hz2 := hb2.size
    simp at hz2
    have hB2 : Below w.heap.size w w2 := Below.trans (by repeat (first | exact Below.refl _ _ | assumption | refine below_drewN ?_ _ | refine Below.drew ?_ | refine Below.alloc ?_ (by first | exact Nat.le_refl _ | omega | (simp; done) | (simp; omega)) _ | refine Below.setCell ?_ (by first | exact Nat.le_refl _ | omega | (simp; done) | (simp; omega)) _)) (hb2.mono (by first | omega | (simp; done) | (simp; omega)))
    have F2 : Bx w2 [(⟨w1.heap.size, 0, none⟩, .int .i64 a), (⟨w1.heap.size, 1, none⟩, .int .i64 b), (⟨w1.heap.size + 1, 0, none⟩, .int .i64 u), (⟨w1.heap.size + 1, 1, none⟩, .int .i64 v)] := Bx.later hb2 (by simp [Bx, go_sem])
    have G2 := F2
    simp only [Bx, and_true] at G2
    have l1 : w1.heap.size < w2.heap.size := by omega
    have l2 : w1.heap.size + 1 < w2.heap.size := by omega
    have n1 : ¬ w1.heap.size = w2.heap.size := by omega
    have n2 : ¬ w1.heap.size + 1 = w2.heap.size := by omega
    go_wp2_with fail
    refine (sFracAdd_any a b u v _).mono ?_
    rintro e w3 ⟨rfl, hb3⟩
    rw [hadd]
    have hz3 := hb3.size
    simp at hz3
    have hB3 : Below w.heap.size w w3 := Below.trans (by repeat (first | exact Below.refl _ _ | assumption | refine below_drewN ?_ _ | refine Below.drew ?_ | refine Below.alloc ?_ (by first | exact Nat.le_refl _ | omega | (simp; done) | (simp; omega)) _ | refine Below.setCell ?_ (by first | exact Nat.le_refl _ | omega | (simp; done) | (simp; omega)) _)) (hb3.mono (by first | omega | (simp; done) | (simp; omega)))
    have F3 : Bx w3 [(⟨w1.heap.size, 0, none⟩, .int .i64 a), (⟨w1.heap.size, 1, none⟩, .int .i64 b), (⟨w1.heap.size + 1, 0, none⟩, .int .i64 u), (⟨w1.heap.size + 1, 1, none⟩, .int .i64 v), (⟨w2.heap.size, 0, none⟩, .int .i64 x), (⟨w2.heap.size, 1, none⟩, .int .i64 y)] := Bx.later hb3 (by simp [Bx, go_sem, G2, l1, l2])
    have G3 := F3
    simp only [Bx, and_true] at G3
    clear G2
    have l3 : w1.heap.size < w3.heap.size := by omega
    have l4 : w1.heap.size + 1 < w3.heap.size := by omega
    have l5 : w2.heap.size < w3.heap.size := by omega
    have n3 : ¬ w1.heap.size = w3.heap.size := by omega
    have n4 : ¬ w1.heap.size + 1 = w3.heap.size := by omega
    have n5 : ¬ w2.heap.size = w3.heap.size := by omega
    cases ok
    · go_wp2_with fail
      go_ret
      exact ⟨by simp, (by repeat (first | exact Below.refl _ _ | assumption | refine below_drewN ?_ _ | refine Below.drew ?_ | refine Below.alloc ?_ (by first | exact Nat.le_refl _ | omega | (simp; done) | (simp; omega)) _ | refine Below.setCell ?_ (by first | exact Nat.le_refl _ | omega | (simp; done) | (simp; omega)) _))⟩
    · obtain ⟨⟨m1, m2⟩, ⟨m3, m4⟩, ⟨m5, m6⟩⟩ := fadd_bd hadd
      have hadd' := Lib.hid hadd
      clear hadd
      obtain ⟨p, q, fine, hof⟩ : ∃ p q fine, Fp.ofn (a * v + u * b) (b * v) = (p, q, fine) := ⟨_, _, _, rfl⟩
      go_wp2_with fail
      refine (iFracOf_any _ _ _).mono ?_
      rintro e w4 ⟨rfl, hb4⟩
      rw [hof]
      have hz4 := hb4.size
      simp at hz4
      have hB4 : Below w.heap.size w w4 := Below.trans (by repeat (first | exact Below.refl _ _ | assumption | refine below_drewN ?_ _ | refine Below.drew ?_ | refine Below.alloc ?_ (by first | exact Nat.le_refl _ | omega | (simp; done) | (simp; omega)) _ | refine Below.setCell ?_ (by first | exact Nat.le_refl _ | omega | (simp; done) | (simp; omega)) _)) (hb4.mono (by first | omega | (simp; done) | (simp; omega)))
      have F4 : Bx w4 [(⟨w1.heap.size, 0, none⟩, .int .i64 a), (⟨w1.heap.size, 1, none⟩, .int .i64 b), (⟨w1.heap.size + 1, 0, none⟩, .int .i64 u), (⟨w1.heap.size + 1, 1, none⟩, .int .i64 v), (⟨w2.heap.size, 0, none⟩, .int .i64 x), (⟨w2.heap.size, 1, none⟩, .int .i64 y)] := Bx.later hb4 (by simp [Bx, go_sem, G3, l3, l4, l5])
      have G4 := F4
      simp only [Bx, and_true] at G4
      clear G3
      have l6 : w1.heap.size < w4.heap.size := by omega
      have l7 : w1.heap.size + 1 < w4.heap.size := by omega
      have l8 : w2.heap.size < w4.heap.size := by omega
      have n6 : ¬ w1.heap.size = w4.heap.size := by omega
      have n7 : ¬ w1.heap.size + 1 = w4.heap.size := by omega
      have n8 : ¬ w2.heap.size = w4.heap.size := by omega
      cases fine
      · go_wp2_with fail
        go_ret
        exact ⟨rfl, (by repeat (first | exact Below.refl _ _ | assumption | refine below_drewN ?_ _ | refine Below.drew ?_ | refine Below.alloc ?_ (by first | exact Nat.le_refl _ | omega | (simp; done) | (simp; omega)) _ | refine Below.setCell ?_ (by first | exact Nat.le_refl _ | omega | (simp; done) | (simp; omega)) _))⟩
      · obtain ⟨rfl, rfl⟩ := Fp.add_text hadd'.out hof
        go_wp2_with fail
        go_ret
        exact ⟨by simp, (by repeat (first | exact Below.refl _ _ | assumption | refine below_drewN ?_ _ | refine Below.drew ?_ | refine Below.alloc ?_ (by first | exact Nat.le_refl _ | omega | (simp; done) | (simp; omega)) _ | refine Below.setCell ?_ (by first | exact Nat.le_refl _ | omega | (simp; done) | (simp; omega)) _))⟩
set_option maxRecDepth 100000 in
set_option maxHeartbeats 400000 in
theorem lawFracTimes_any (A : Option Addr) (n c : Nat) (w : World) (h : Bytes w w.heap.size A n) (hn : n ≤ 9223372036854775807) (hc : n ≤ c) :
    Calls Try.prog 7 #[.slice A n c] w fun e w' => e = .returned (.bool true) ∧ Below w.heap.size w w' := by
  by_cases hb : 1048576 < n
  · go_enter Try.func7, Try.ntmps7
    go_wp2_with fail
    go_ret
    exact ⟨rfl, Below.refl _ _⟩
  · go_enter Try.func7, Try.ntmps7
    go_wp2_with fail
    refine (drawFracTimes_any A n c w h hn hc).mono ?_
    rintro e w1 ⟨a, b, u, v, rfl, hb1⟩
    obtain ⟨x, y, ok, hadd⟩ : ∃ x y ok, Fp.tms a b u v = (x, y, ok) := ⟨_, _, _, rfl⟩
    go_wp2_with fail
    refine (iFracTimes_any a b u v _).mono ?_
    rintro e w2 ⟨rfl, hb2⟩
    rw [hadd]
    have hz1 := hb1.size
    have hz2 := hb2.size
    simp at hz2
    have hB2 : Below w.heap.size w w2 := Below.trans (by repeat (first | exact Below.refl _ _ | assumption | refine below_drewN ?_ _ | refine Below.drew ?_ | refine Below.alloc ?_ (by first | exact Nat.le_refl _ | omega | (simp; done) | (simp; omega)) _ | refine Below.setCell ?_ (by first | exact Nat.le_refl _ | omega | (simp; done) | (simp; omega)) _)) (hb2.mono (by first | omega | (simp; done) | (simp; omega)))
    have F2 : Bx w2 [(⟨w1.heap.size, 0, none⟩, .int .i64 a), (⟨w1.heap.size, 1, none⟩, .int .i64 b), (⟨w1.heap.size + 1, 0, none⟩, .int .i64 u), (⟨w1.heap.size + 1, 1, none⟩, .int .i64 v)] := Bx.later hb2 (by simp [Bx, go_sem])
    have G2 := F2
    simp only [Bx, and_true] at G2
    have l1 : w1.heap.size < w2.heap.size := by omega
    have l2 : w1.heap.size + 1 < w2.heap.size := by omega
    have n1 : ¬ w1.heap.size = w2.heap.size := by omega
    have n2 : ¬ w1.heap.size + 1 = w2.heap.size := by omega
    go_wp2_with fail
    refine (sFracTimes_any a b u v _).mono ?_
    rintro e w3 ⟨rfl, hb3⟩
    rw [hadd]
    have hz3 := hb3.size
    simp at hz3
    have hB3 : Below w.heap.size w w3 := Below.trans (by repeat (first | exact Below.refl _ _ | assumption | refine below_drewN ?_ _ | refine Below.drew ?_ | refine Below.alloc ?_ (by first | exact Nat.le_refl _ | omega | (simp; done) | (simp; omega)) _ | refine Below.setCell ?_ (by first | exact Nat.le_refl _ | omega | (simp; done) | (simp; omega)) _)) (hb3.mono (by first | omega | (simp; done) | (simp; omega)))
    have F3 : Bx w3 [(⟨w1.heap.size, 0, none⟩, .int .i64 a), (⟨w1.heap.size, 1, none⟩, .int .i64 b), (⟨w1.heap.size + 1, 0, none⟩, .int .i64 u), (⟨w1.heap.size + 1, 1, none⟩, .int .i64 v), (⟨w2.heap.size, 0, none⟩, .int .i64 x), (⟨w2.heap.size, 1, none⟩, .int .i64 y)] := Bx.later hb3 (by simp [Bx, go_sem, G2, l1, l2])
    have G3 := F3
    simp only [Bx, and_true] at G3
    clear G2
    have l3 : w1.heap.size < w3.heap.size := by omega
    have l4 : w1.heap.size + 1 < w3.heap.size := by omega
    have l5 : w2.heap.size < w3.heap.size := by omega
    have n3 : ¬ w1.heap.size = w3.heap.size := by omega
    have n4 : ¬ w1.heap.size + 1 = w3.heap.size := by omega
    have n5 : ¬ w2.heap.size = w3.heap.size := by omega
    cases ok
    · go_wp2_with fail
      go_ret
      exact ⟨by simp, (by repeat (first | exact Below.refl _ _ | assumption | refine below_drewN ?_ _ | refine Below.drew ?_ | refine Below.alloc ?_ (by first | exact Nat.le_refl _ | omega | (simp; done) | (simp; omega)) _ | refine Below.setCell ?_ (by first | exact Nat.le_refl _ | omega | (simp; done) | (simp; omega)) _))⟩
    · obtain ⟨⟨m1, m2⟩, ⟨m5, m6⟩⟩ := ftms_bd hadd
      have hvld : Fp.vld x y = true := (Fp.redo_valid _ _ _ _ (Fp.tms_yes hadd).2.2).2.2
      have hcomm : Fp.tms u v a b = (x, y, true) := by rw [Fp.tms_comm]; exact hadd
      have hadd' := Lib.hid hadd
      have Hv := Lib.hid hvld
      clear hadd
      obtain ⟨p, q, fine, hof⟩ : ∃ p q fine, Fp.ofn (a * u) (b * v) = (p, q, fine) := ⟨_, _, _, rfl⟩
      go_wp2_with fail
      refine (iFracTimes_any u v a b _).mono ?_
      rintro e w4 ⟨rfl, hb4⟩
      rw [hcomm]
      have hz4 := hb4.size
      simp at hz4
      have hB4 : Below w.heap.size w w4 := Below.trans (by repeat (first | exact Below.refl _ _ | assumption | refine below_drewN ?_ _ | refine Below.drew ?_ | refine Below.alloc ?_ (by first | exact Nat.le_refl _ | omega | (simp; done) | (simp; omega)) _ | refine Below.setCell ?_ (by first | exact Nat.le_refl _ | omega | (simp; done) | (simp; omega)) _)) (hb4.mono (by first | omega | (simp; done) | (simp; omega)))
      have F4 : Bx w4 [(⟨w1.heap.size, 0, none⟩, .int .i64 a), (⟨w1.heap.size, 1, none⟩, .int .i64 b), (⟨w1.heap.size + 1, 0, none⟩, .int .i64 u), (⟨w1.heap.size + 1, 1, none⟩, .int .i64 v), (⟨w2.heap.size, 0, none⟩, .int .i64 x), (⟨w2.heap.size, 1, none⟩, .int .i64 y)] := Bx.later hb4 (by simp [Bx, go_sem, G3, l3, l4, l5])
      have G4 := F4
      simp only [Bx, and_true] at G4
      clear G3
      have l6 : w1.heap.size < w4.heap.size := by omega
      have l7 : w1.heap.size + 1 < w4.heap.size := by omega
      have l8 : w2.heap.size < w4.heap.size := by omega
      have n6 : ¬ w1.heap.size = w4.heap.size := by omega
      have n7 : ¬ w1.heap.size + 1 = w4.heap.size := by omega
      have n8 : ¬ w2.heap.size = w4.heap.size := by omega
      go_wp2_with fail
      refine (iFracOf_any _ _ _).mono ?_
      rintro e w5 ⟨rfl, hb5⟩
      rw [hof]
      have hz5 := hb5.size
      simp at hz5
      have hB5 : Below w.heap.size w w5 := Below.trans (by repeat (first | exact Below.refl _ _ | assumption | refine below_drewN ?_ _ | refine Below.drew ?_ | refine Below.alloc ?_ (by first | exact Nat.le_refl _ | omega | (simp; done) | (simp; omega)) _ | refine Below.setCell ?_ (by first | exact Nat.le_refl _ | omega | (simp; done) | (simp; omega)) _)) (hb5.mono (by first | omega | (simp; done) | (simp; omega)))
      have F5 : Bx w5 [(⟨w1.heap.size, 0, none⟩, .int .i64 a), (⟨w1.heap.size, 1, none⟩, .int .i64 b), (⟨w1.heap.size + 1, 0, none⟩, .int .i64 u), (⟨w1.heap.size + 1, 1, none⟩, .int .i64 v), (⟨w2.heap.size, 0, none⟩, .int .i64 x), (⟨w2.heap.size, 1, none⟩, .int .i64 y), (⟨w4.heap.size, 0, none⟩, .int .i64 x), (⟨w4.heap.size, 1, none⟩, .int .i64 y)] := Bx.later hb5 (by simp [Bx, go_sem, G4, l6, l7, l8])
      have G5 := F5
      simp only [Bx, and_true] at G5
      clear G4
      have l9 : w2.heap.size < w5.heap.size := by omega
      have l10 : w4.heap.size < w5.heap.size := by omega
      have n9 : ¬ w2.heap.size = w5.heap.size := by omega
      have n10 : ¬ w4.heap.size = w5.heap.size := by omega
      cases fine
      · go_wp2_with fail
        refine (iFracValid_any x y _).mono ?_
        rintro e w6 ⟨rfl, hb6⟩
        rw [Hv.out]
        have hz6 := hb6.size
        simp at hz6
        have hB6 : Below w.heap.size w w6 := Below.trans (by repeat (first | exact Below.refl _ _ | assumption | refine below_drewN ?_ _ | refine Below.drew ?_ | refine Below.alloc ?_ (by first | exact Nat.le_refl _ | omega | (simp; done) | (simp; omega)) _ | refine Below.setCell ?_ (by first | exact Nat.le_refl _ | omega | (simp; done) | (simp; omega)) _)) (hb6.mono (by first | omega | (simp; done) | (simp; omega)))
        go_wp2_with fail
        go_ret
        exact ⟨rfl, (by repeat (first | exact Below.refl _ _ | assumption | refine below_drewN ?_ _ | refine Below.drew ?_ | refine Below.alloc ?_ (by first | exact Nat.le_refl _ | omega | (simp; done) | (simp; omega)) _ | refine Below.setCell ?_ (by first | exact Nat.le_refl _ | omega | (simp; done) | (simp; omega)) _))⟩
      · obtain ⟨rfl, rfl⟩ := Fp.tms_text hadd'.out hof
        go_wp2_with fail
        refine (iFracValid_any p q _).mono ?_
        rintro e w6 ⟨rfl, hb6⟩
        rw [Hv.out]
        have hz6 := hb6.size
        simp at hz6
        have hB6 : Below w.heap.size w w6 := Below.trans (by repeat (first | exact Below.refl _ _ | assumption | refine below_drewN ?_ _ | refine Below.drew ?_ | refine Below.alloc ?_ (by first | exact Nat.le_refl _ | omega | (simp; done) | (simp; omega)) _ | refine Below.setCell ?_ (by first | exact Nat.le_refl _ | omega | (simp; done) | (simp; omega)) _)) (hb6.mono (by first | omega | (simp; done) | (simp; omega)))
        go_wp2_with fail
        go_ret
        exact ⟨by simp, (by repeat (first | exact Below.refl _ _ | assumption | refine below_drewN ?_ _ | refine Below.drew ?_ | refine Below.alloc ?_ (by first | exact Nat.le_refl _ | omega | (simp; done) | (simp; omega)) _ | refine Below.setCell ?_ (by first | exact Nat.le_refl _ | omega | (simp; done) | (simp; omega)) _))⟩
end Go.Proofs.Ytpkkgkepmbpkeaa
