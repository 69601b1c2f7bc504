/-
  The draws of two fractions.
-/
import Derived.Test.YtpkkgkepmbpkeaaDrawFrac
namespace Go.Proofs.Ytpkkgkepmbpkeaa
set_option linter.unusedVariables false
open Go.RowKit

theorem Bytes.up {w w' : World} {A : Option Addr} {n : Nat} (h : Bytes w w.heap.size A n) (hb : Below w.heap.size w w') : Bytes w' w'.heap.size A n := fun hp => by
  obtain ⟨b, o, e, hl, hx⟩ := (h.below hb) hp
  exact ⟨b, o, e, Nat.lt_of_lt_of_le hl hb.size, hx⟩

set_option maxRecDepth 100000 in
set_option maxHeartbeats 400000 in
theorem drawFracAdd_any (A : Option Addr) (n c : Nat) (w : World) (h : Bytes w w.heap.size A n) (hn : n ≤ 9223372036854775807) (hc : n ≤ c) :
    Calls Try.prog 11 #[.slice A n c] w (TwoFracs w) := by
  go_enter Try.func11, Try.ntmps11
  go_wp2_with fail
  refine (l6Open_any A n c _ (Bytes.up h (by repeat (first | exact Below.refl _ _ | assumption | refine below_drewN ?_ _ | refine Below.drew ?_ | refine Below.alloc ?_ (by first | exact Nat.le_refl _ | omega | (simp; done) | (simp; omega)) _ | refine Below.setCell ?_ (by first | exact Nat.le_refl _ | omega | (simp; done) | (simp; omega)) _))) hn hc).mono ?_
  rintro e w1 ⟨g, rfl, hg, hg', hr, hb⟩
  have F1 : Bx w1 [(⟨w.heap.size, 0, none⟩, .int .i64 0), (⟨w.heap.size, 1, none⟩, .int .i64 0), (⟨w.heap.size + 1, 0, none⟩, .int .i64 0), (⟨w.heap.size + 1, 1, none⟩, .int .i64 0)] := Bx.later hb (by simp [Bx, go_sem])
  have hz1 := hb.size
  simp at hz1 hg
  have O1 : w.grownBy w1 (some g) := only_trans (only_of_below (show Below w.heap.size w _ from (by repeat (first | exact Below.refl _ _ | assumption | refine below_drewN ?_ _ | refine Below.drew ?_ | refine Below.alloc ?_ (by first | exact Nat.le_refl _ | omega | (simp; done) | (simp; omega)) _ | refine Below.setCell ?_ (by first | exact Nat.le_refl _ | omega | (simp; done) | (simp; omega)) _))) _) (only_of_below hb _)
  go_wp2_with fail
  refine (l93Frac_any g 0 _ ⟨0, Nat.le_refl _, hr⟩ (by omega)).mono ?_
  rintro e w2 ⟨a, b, rfl, hg2, hr2⟩
  have F2 := Bx.only hg2 (by simp; omega) F1
  have G2 := F2
  simp only [Bx, and_true] at G2
  have O2 : w.grownBy w2 (some g) := only_trans O1 hg2
  have hz2 := hg2.size
  have hgl := hr2.lt
  clear hg2 F1 O1
  have R2 : w2.grownBy w2 (some g) := World.grownBy.refl _ _
  go_wp2_with fail
  have F3 : Bx (w2.alloc (.cells #[.int .i64 a, .int .i64 b] 29)) [(⟨w2.heap.size, 0, none⟩, .int .i64 a), (⟨w2.heap.size, 1, none⟩, .int .i64 b)] := by simp [Bx, go_sem]
  have n1 : ¬ w.heap.size = g := by omega
  have n2 : ¬ w.heap.size + 1 = g := by omega
  have n3 : ¬ w2.heap.size = g := by omega
  have n4 : w.heap.size < w2.heap.size := by omega
  have n5 : w.heap.size + 1 < w2.heap.size := by omega
  go_region_with (
    (go_at_call 22
     refine (l93Frac_any g 3 _ ?_ (by omega)).mono ?_
     · exact RdLe.mono (b := 3) (by repeat (first | (with_reducible assumption) | (with_reducible refine RdLe.drewN ?_ _) | (with_reducible refine RdLe.drew ?_) | (with_reducible refine RdLe.alloc ?_ _) | (with_reducible refine RdLe.far ?_ (by first | omega | (simp; omega)) _))) (by omega)
     rintro e wx ⟨cx, dx, rfl, hgx, hrx⟩
     have hax := (gcell hgx).1 w2.heap.size 0 (by simp) n3
     have hbx := (gcell hgx).1 w2.heap.size 1 (by simp) n3
     have hcx := (gcell hgx).1 w.heap.size 0 (by simp; omega) n1
     have hdx := (gcell hgx).1 w.heap.size 1 (by simp; omega) n1
     have hex := (gcell hgx).1 (w.heap.size + 1) 0 (by simp; omega) n2
     have hfx := (gcell hgx).1 (w.heap.size + 1) 1 (by simp; omega) n2
     have hgx0 := (gcell hgx).2 w.heap.size 0 (by simp; omega) n1
     have hgx1 := (gcell hgx).2 w.heap.size 1 (by simp; omega) n1
     have hgx2 := (gcell hgx).2 (w.heap.size + 1) 0 (by simp; omega) n2
     have hgx3 := (gcell hgx).2 (w.heap.size + 1) 1 (by simp; omega) n2
     simp [go_sem, G2, n4, n5] at hax hbx hcx hdx hex hfx hgx0 hgx1 hgx2 hgx3))
  all_goals
    have O3 : w.grownBy wx (some g) := only_trans (only_trans O2 (by repeat (first | (with_reducible assumption) | (with_reducible refine only_drewN ?_ _) | (with_reducible refine only_drew ?_) | (with_reducible refine only_alloc ?_ _) | (with_reducible refine only_setCell ?_ (by first | exact Or.inl rfl | (refine Or.inr ?_; simp; done) | (refine Or.inr ?_; simp; omega) | (refine Or.inr ?_; omega)) _)))) hgx
    have hB : Below w.heap.size w wx := below_only O3 (by omega) (Nat.le_refl _)
    go_wp2_with fail
    exact bodyPost_ret (v := .tuple #[.agg #[.int .i64 a, .int .i64 b], .agg #[.int .i64 cx, .int .i64 dx]]) (by simp [results, Try.results11, go_sem, hcx, hdx, hex, hfx]) rfl ⟨_, _, _, _, rfl, (by repeat (first | exact Below.refl _ _ | assumption | refine below_drewN ?_ _ | refine Below.drew ?_ | refine Below.alloc ?_ (by first | exact Nat.le_refl _ | omega | (simp; done) | (simp; omega)) _ | refine Below.setCell ?_ (by first | exact Nat.le_refl _ | omega | (simp; done) | (simp; omega)) _))⟩
theorem drawFracTimes_any (A : Option Addr) (n c : Nat) (w : World) (h : Bytes w w.heap.size A n) (hn : n ≤ 9223372036854775807) (hc : n ≤ c) :
    Calls Try.prog 16 #[.slice A n c] w (TwoFracs w) := by
  go_enter Try.func16, Try.ntmps16
  go_wp2_with fail
  refine (drawFracAdd_any A n c _ (Bytes.up h (by repeat (first | exact Below.refl _ _ | assumption | refine below_drewN ?_ _ | refine Below.drew ?_ | refine Below.alloc ?_ (by first | exact Nat.le_refl _ | omega | (simp; done) | (simp; omega)) _ | refine Below.setCell ?_ (by first | exact Nat.le_refl _ | omega | (simp; done) | (simp; omega)) _))) hn hc).mono ?_
  rintro e w1 ⟨a, b, c, d, rfl, hb⟩
  have F1 : Bx w1 [(⟨w.heap.size, 0, none⟩, .int .i64 0), (⟨w.heap.size, 1, none⟩, .int .i64 0), (⟨w.heap.size + 1, 0, none⟩, .int .i64 0), (⟨w.heap.size + 1, 1, none⟩, .int .i64 0)] := Bx.later hb (by simp [Bx, go_sem])
  have G1 := F1
  simp only [Bx, and_true] at G1
  have hz1 := hb.size
  simp at hz1
  have hb' : Below w.heap.size w w1 := Below.trans (show Below w.heap.size w _ from (by repeat (first | exact Below.refl _ _ | assumption | refine below_drewN ?_ _ | refine Below.drew ?_ | refine Below.alloc ?_ (by first | exact Nat.le_refl _ | omega | (simp; done) | (simp; omega)) _ | refine Below.setCell ?_ (by first | exact Nat.le_refl _ | omega | (simp; done) | (simp; omega)) _))) (hb.mono (by simp; omega))
  clear hb
  go_wp2_with fail
  exact bodyPost_ret (v := .tuple #[.agg #[.int .i64 a, .int .i64 b], .agg #[.int .i64 c, .int .i64 d]]) (by simp [results, Try.results16, go_sem, G1]) rfl ⟨_, _, _, _, rfl, (by repeat (first | exact Below.refl _ _ | assumption | refine below_drewN ?_ _ | refine Below.drew ?_ | refine Below.alloc ?_ (by first | exact Nat.le_refl _ | omega | (simp; done) | (simp; omega)) _ | refine Below.setCell ?_ (by first | exact Nat.le_refl _ | omega | (simp; done) | (simp; omega)) _))⟩
end Go.Proofs.Ytpkkgkepmbpkeaa
