/-
  The draws of fractions and of the arguments of TransferQuota: each returns some numbers and writes nothing that was there.
-/
import Derived.Test.YtleceoplfboefaaDoorDraw
import Derived.Test.YtleceoplfboefaaDoorFracWalks
import Derived.Deep.RegionWith
import Derived.Deep.DrawnRows
namespace Go.Proofs.YtleceoplfboefaaDoor
set_option linter.unusedVariables false
open Go.RowKit

attribute [local go_sem ↓] Go.wp_at_zero Go.wp_at_succ
/-- what a drawn fraction leaves -/
def Fraced (w : World) (g b : Nat) (e : Ending) (w' : World) : Prop :=
  ∃ n d : Int, e = .returned (.agg #[.int .i64 n, .int .i64 d]) ∧ w.grownBy w' (some g) ∧ RdLe w' g (b + 3)

theorem three_at (a b c k : Int) (h0 : 0 ≤ k) (h1 : k < 3) : ∃ v : Int, ([.int .i64 a, .int .i64 b, .int .i64 c] : List Value)[k.toNat]'(by simp; omega) = .int .i64 v := by
  rcases (show k = 0 ∨ k = 1 ∨ k = 2 by omega) with rfl | rfl | rfl
  · exact ⟨a, rfl⟩
  · exact ⟨b, rfl⟩
  · exact ⟨c, rfl⟩
set_option maxRecDepth 100000 in
set_option maxHeartbeats 20000000 in
set_option linter.unusedSimpArgs false in
theorem l93Frac_any (g b : Nat) (w : World) (h : RdLe w g b) (hp : b ≤ 100000000) :
    Calls Tryd.prog 13 #[.pointer (some ⟨g, 0, none⟩)] w (Fraced w g b) := by
  have hlt := h.lt
  go_enter Tryd.func13, Tryd.ntmps13
  go_wp2_with fail
  refine (pick_b g b 20 _ (h.alloc _) (by omega)).mono ?_
  rintro e w1 ⟨k, rfl, hk0, hk1, -, hg1, hr1⟩
  have hk := hk1 (by omega)
  clear hk1
  have F1 : Bx w1 [(⟨w.heap.size, 0, none⟩, .int .i64 0), (⟨w.heap.size, 1, none⟩, .int .i64 0)] := Bx.only hg1 (by simp; omega) (by simp [Bx, go_sem])
  have G1 := F1
  simp only [Bx, and_true] at G1
  have hs1 := hg1.size
  simp at hs1
  have O1 : w.grownBy w1 (some g) := only_trans (only_of_below (by repeat (first | exact Below.refl _ _ | assumption | refine below_drewN ?_ _ | refine Below.drew ?_ | refine Below.alloc ?_ (by first | exact Nat.le_refl _ | omega | (simp; done) | (simp; omega)) _ | refine Below.setCell ?_ (by first | exact Nat.le_refl _ | omega | (simp; done) | (simp; omega)) _)) _) hg1
  by_cases c1 : k = 1
  · subst c1
    go_wp2_with fail
    have n1 : ¬ w1.heap.size = g := by omega
    have n2 : ¬ w1.heap.size + 1 = g := by omega
    have n3 : ¬ w.heap.size = g := by omega
    have n4 : ¬ g = w.heap.size := by omega
    have n5 : ¬ g = w1.heap.size := by omega
    have n6 : ¬ g = w1.heap.size + 1 := by omega
    have l1 : w.heap.size < w1.heap.size := by omega
    have l2 : w.heap.size < w1.heap.size + 1 := by omega
    have l3 : g < w1.heap.size := by omega
    have l4 : g < w1.heap.size + 1 := by omega
    go_region_with (first
      | (go_at_call 19
         refine (pick_le g (b + 1) 3 _ ?_ (by omega)).mono ?_
         · repeat (first | (with_reducible exact hr1) | refine RdLe.drewN ?_ _ | refine RdLe.drew ?_ | refine RdLe.alloc ?_ _ | refine RdLe.set (b := b + 0) ?_ _ (by assumption) (by omega))
         rintro e wx ⟨kx, qx, nx, rfl, hkx0, hkx1, -, hqx0, hqx1, rfl⟩
         have hkx := hkx1 (by omega)
         clear hkx1
         obtain ⟨va, hva⟩ := three_at 9999999 (-9999999) 10000000 kx hkx0 hkx
         obtain ⟨vb, hvb⟩ := three_at 1 10 9999999 kx hkx0 hkx)
      | (go_at_call 19
         refine (pick_le g (b + 2) 3 _ ?_ (by omega)).mono ?_
         · repeat (first | (with_reducible exact hr1) | refine RdLe.drewN ?_ _ | refine RdLe.drew ?_ | refine RdLe.alloc ?_ _ | refine RdLe.set (b := b + 1) ?_ _ (by assumption) (by omega))
         rintro e wx ⟨kx, qx, nx, rfl, hkx0, hkx1, -, hqx0, hqx1, rfl⟩
         have hkx := hkx1 (by omega)
         clear hkx1
         obtain ⟨va, hva⟩ := three_at 9999999 (-9999999) 10000000 kx hkx0 hkx
         obtain ⟨vb, hvb⟩ := three_at 1 10 9999999 kx hkx0 hkx)
      | fail)
    all_goals
      go_wp2_with fail
      exact bodyPost_ret (by simp [results, Tryd.results13, go_sem, G1, l1, l2, n3, n4]; exact ⟨rfl, rfl⟩) rfl ⟨_, _, rfl, (by repeat (first | (with_reducible assumption) | (with_reducible refine only_drewN ?_ _) | (with_reducible refine only_drew ?_) | (with_reducible refine only_alloc ?_ _) | (with_reducible refine only_setCell ?_ (by first | exact Or.inl rfl | (refine Or.inr ?_; simp; done) | (refine Or.inr ?_; simp; omega) | (refine Or.inr ?_; omega)) _))), by repeat (first | (with_reducible exact RdLe.mono hr1 (by omega)) | (with_reducible refine RdLe.drewN ?_ _) | (with_reducible refine RdLe.drew ?_) | (with_reducible refine RdLe.alloc ?_ _) | (with_reducible refine RdLe.far ?_ (by simp; omega) _) | (with_reducible refine RdLe.set (b := b + 2) ?_ _ (by assumption) (by omega)) | (with_reducible refine RdLe.set (b := b + 1) ?_ _ (by assumption) (by omega)))⟩
  by_cases c0 : k = 0
  · subst c0
    go_wp2_with fail
    refine (pick_b g (b + 1) 12 _ hr1 (by omega)).mono ?_
    rintro e w2 ⟨k2, rfl, hk20, hk21, -, hg2, hr2⟩
    have F2 := Bx.only hg2 (by simp; omega) F1
    go_wp2_with fail
    refine (pick_b g (b + 1 + 1) 12 _ hr2 (by omega)).mono ?_
    rintro e w3 ⟨k3, rfl, hk30, hk31, -, hg3, hr3⟩
    have F3 := Bx.only hg3 (by simp; omega) F2
    have G3 := F3
    simp only [Bx, and_true] at G3
    have O3 : w.grownBy w3 (some g) := only_trans (only_trans O1 hg2) hg3
    clear hg3 hg2 hg1
    go_wp2_with fail
    exact bodyPost_ret (v := .agg #[.int .i64 k2, .int .i64 k3]) (by simp [results, Tryd.results13, go_sem, G3]) rfl ⟨_, _, rfl, (by repeat (first | (with_reducible assumption) | (with_reducible refine only_drewN ?_ _) | (with_reducible refine only_drew ?_) | (with_reducible refine only_alloc ?_ _) | (with_reducible refine only_setCell ?_ (by first | exact Or.inl rfl | (refine Or.inr ?_; simp; done) | (refine Or.inr ?_; simp; omega) | (refine Or.inr ?_; omega)) _))), RdLe.mono (b := b + 1 + 1 + 1) (by repeat (first | (with_reducible assumption) | (with_reducible refine RdLe.drewN ?_ _) | (with_reducible refine RdLe.drew ?_) | (with_reducible refine RdLe.alloc ?_ _) | (with_reducible refine RdLe.far ?_ (by first | omega | (simp; omega)) _))) (by omega)⟩
  · have d1 : (k == 1) = false := by simpa using c1
    have d0 : (k == 0) = false := by simpa using c0
    go_wp2_with fail
    refine (pick_b g (b + 1) 60 _ hr1 (by omega)).mono ?_
    rintro e w2 ⟨k2, rfl, hk20, hk21, -, hg2, hr2⟩
    have hk2 := hk21 (by omega)
    have F2 := Bx.only hg2 (by simp; omega) F1
    go_wp2_with fail
    refine (pick_b g (b + 1 + 1) 40 _ hr2 (by omega)).mono ?_
    rintro e w3 ⟨k3, rfl, hk30, hk31, -, hg3, hr3⟩
    have hk3 := hk31 (by omega)
    have F3 := Bx.only hg3 (by simp; omega) F2
    have O3 : w.grownBy w3 (some g) := only_trans (only_trans O1 hg2) hg3
    clear hg3 hg2 hg1
    go_wp2_with fail
    refine (l5Of_any _ _ _ (by omega) (by omega) (by omega) (by omega)).mono ?_
    rintro e w4 ⟨rfl, hb4⟩
    have F4 := F3.later hb4
    have G4 := F4
    simp only [Bx, and_true] at G4
    have O4 := only_keep O3 hb4
    have hr4 := hr3.keep hb4
    go_wp2_with fail
    exact bodyPost_ret (v := .agg #[.int .i64 (Fp.rn (k2 - 20) (1 + k3)), .int .i64 (Fp.rd (k2 - 20) (1 + k3))]) (by simp [results, Tryd.results13, go_sem, G4]) rfl ⟨_, _, rfl, (by repeat (first | (with_reducible assumption) | (with_reducible refine only_drewN ?_ _) | (with_reducible refine only_drew ?_) | (with_reducible refine only_alloc ?_ _) | (with_reducible refine only_setCell ?_ (by first | exact Or.inl rfl | (refine Or.inr ?_; simp; done) | (refine Or.inr ?_; simp; omega) | (refine Or.inr ?_; omega)) _))), RdLe.mono (b := b + 1 + 1 + 1) (by repeat (first | (with_reducible assumption) | (with_reducible refine RdLe.drewN ?_ _) | (with_reducible refine RdLe.drew ?_) | (with_reducible refine RdLe.alloc ?_ _) | (with_reducible refine RdLe.far ?_ (by first | omega | (simp; omega)) _))) (by omega)⟩

/-- two drawn fractions -/
def TwoFracs (w : World) (e : Ending) (w' : World) : Prop :=
  ∃ a b c d : Int, e = .returned (.tuple #[.agg #[.int .i64 a, .int .i64 b], .agg #[.int .i64 c, .int .i64 d]]) ∧ Below w.heap.size w w'
end Go.Proofs.YtleceoplfboefaaDoor
