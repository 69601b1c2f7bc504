/-
  The walk of the laws' fracSum: counts of one denominator add up.
-/
import Derived.Test.YtiglkajafdecgaaTransMem
import Derived.Test.YtiglkajafdecgaaTransLaw
import Derived.Test.YtiglkajafdecgaaFracWalks
import Derived.Deep.RegionHeld
namespace Go.Proofs.Ytiglkajafdecgaa
set_option linter.unusedVariables false
open Go.RowKit

theorem frs_add2 {d a b : Int} (hd : 1 ≤ d) (hd' : d ≤ 60) (ha : -20000 ≤ a ∧ a ≤ 20000) (hb : -20000 ≤ b ∧ b ≤ 20000) : Fp.add (Bp.fr d a).1 (Bp.fr d a).2 (Bp.fr d b).1 (Bp.fr d b).2 = ((Bp.fr d (a + b)).1, (Bp.fr d (a + b)).2, true) := by
  have v1 := Bp.fr_vld (d := d) (n := a) hd (by omega) (by omega) (by omega)
  have v2 := Bp.fr_vld (d := d) (n := b) hd (by omega) (by omega) (by omega)
  have v3 := Bp.fr_vld (d := d) (n := a + b) hd (by omega) (by omega) (by omega)
  have e := Bp.fr_sum_same (d := d) (a := a) (b := b) hd
  unfold Fp.add Fp.redo
  rw [v1, v2, Bool.and_true, if_pos rfl]
  have e1 := congrArg Prod.fst e
  have e2 := congrArg Prod.snd e
  rw [show Fp.rn _ _ = _ from e1, show Fp.rd _ _ = _ from e2, v3, if_pos rfl]
/-- a fraction and a whole number -/
theorem frs_add1 {d a b : Int} (hd : 1 ≤ d) (hd' : d ≤ 60) (ha : -20000 ≤ a ∧ a ≤ 20000) (hb : -100 ≤ b ∧ b ≤ 100) : Fp.add (Bp.fr d a).1 (Bp.fr d a).2 b 1 = ((Bp.fr d (a + b * d)).1, (Bp.fr d (a + b * d)).2, true) := by
  have h1 : (b * d).natAbs ≤ 100 * 60 := by rw [Int.natAbs_mul]; exact Nat.mul_le_mul (by omega) (by omega)
  have e := frs_add2 (d := d) (a := a) (b := b * d) hd hd' ha (by omega)
  have e2 : Bp.fr d (b * d) = (b, 1) := by
    rw [← Bp.fr_one b]
    exact Bp.fr_same hd (by omega) (by omega)
  rw [e2] at e
  exact e

set_option maxRecDepth 100000 in
set_option maxHeartbeats 2000000 in
theorem fracSum_any (A : Option Addr) (n c : Nat) (d : Int) (ns : List Int) (w : World) (h : Fracs w w.heap.size A n (Bp.frs d ns)) (hd : 1 ≤ d) (hd' : d ≤ 60) (hn : n ≤ 5) (hbd : Bp.Bd ns (d * 60)) :
    Calls Try.prog 28 #[.slice A n c] w fun e w' => e = .returned (.agg #[.int .i64 (Bp.fr d (Bp.addUp ns n)).1, .int .i64 (Bp.fr d (Bp.addUp ns n)).2]) ∧ Below w.heap.size w w' := by
  have hl := Lib.hid (show ns.length = n by have := h.1; rwa [Bp.frs_len] at this)
  have Hbd := Lib.hid hbd
  clear hbd
  have hz0 : Bp.fr d (Bp.addUp ns 0) = (0, 1) := Bp.fr_zero hd
  have Hz0 := Lib.hid hz0
  clear hz0
  go_enter Try.func28, Try.ntmps28
  go_wp2_with fail
  go_loopw [4] (fun i wr => ∃ (k : Nat) (a b : Int), k ≤ n ∧ i = .int .i64 k ∧ Hid (Bp.fr d (Bp.addUp ns k) = (a, b)) ∧ Bx wr [(⟨w.heap.size + 1, 0, none⟩, .int .i64 a), (⟨w.heap.size + 1, 1, none⟩, .int .i64 b), (⟨w.heap.size, 0, none⟩, .int .i64 0), (⟨w.heap.size, 1, none⟩, .int .i64 0)] ∧ Below w.heap.size w wr) (fun i _ => n - (intOf i).toNat)
  case atStart => exact ⟨0, 0, 1, Nat.zero_le _, rfl, Hz0.out, by simp [Bx, go_sem], (by repeat (first | exact Below.refl _ _ | assumption | refine below_drewN ?_ _ | refine Below.drew ?_ | refine Below.alloc ?_ (by first | exact Nat.le_refl _ | omega | (simp; done) | (simp; omega)) _ | refine Below.setCell ?_ (by first | exact Nat.le_refl _ | omega | (simp; done) | (simp; omega)) _))⟩
  case round =>
    obtain ⟨k, a, b, hk, rfl, hab, hx, hb⟩ := hrel
    have hz := hb.size
    simp only [Bx, and_true] at hx
    obtain ⟨⟨a0, f0⟩, ⟨a1, f1⟩, ⟨r0, g0⟩, r1, g1⟩ := hx
    have hS := lt_of_cell a0
    simp only at hS
    by_cases hlt : k < n
    · obtain ⟨g, o, u, v, rfl, hg, c0, c1, huv⟩ := (h.below hb).at hlt
      have huv' : Bp.fr d (ns.getD k 0) = (u, v) := by
        rw [← Bp.frs_at d ns (by rw [hl.out]; exact hlt)]
        exact huv.out
      have b1 := Bp.addUp_bd5 Hbd.out hd hd' (k := k) (by omega)
      have b3 := Hbd.out k
      have had := frs_add2 (d := d) (a := Bp.addUp ns k) (b := ns.getD k 0) hd hd' (by omega) (by omega)
      have hstep : Bp.addUp ns k + ns.getD k 0 = Bp.addUp ns (k + 1) := rfl
      rw [hstep, hab.out, huv'] at had
      obtain ⟨x, y, hxy⟩ : ∃ x y, Bp.fr d (Bp.addUp ns (k + 1)) = (x, y) := ⟨_, _, rfl⟩
      rw [hxy] at had
      dsimp only at had
      have Had := Lib.hid had
      have Hxy := Lib.hid hxy
      clear had hxy huv huv' hstep b1 b3
      have i1 : (0 : Int) ≤ (k : Int) := by omega
      have i2 : (k : Int) < (n : Int) := by omega
      have hgr : g < wr.heap.size := by omega
      have k1 : ¬ g = wr.heap.size := by omega
      have k2 : ¬ wr.heap.size = g := by omega
      have k3 : ¬ w.heap.size + 1 = wr.heap.size := by omega
      have k4 : ¬ wr.heap.size = w.heap.size + 1 := by omega
      go_wp2_with fail
      go_region_held (fun w' => (w'.cell? ⟨w.heap.size + 1, 0, none⟩ = some (.int .i64 a) ∧ w'.cell? ⟨w.heap.size + 1, 1, none⟩ = some (.int .i64 b)) ∧ w'.cell? ⟨g, o + k * 2, none⟩ = some (.int .i64 u) ∧ w'.cell? ⟨g, o + k * 2 + 1, none⟩ = some (.int .i64 v)) (go_keep)
        (first
          | (go_at_call 29; refine (iFracAdd_any a b u v wr.drew).mono ?_; rintro e w3 ⟨rfl, hb3⟩; rw [Had.out]; have hb4 : Below wr.heap.size wr w3 := (Below.refl _ _).drew.trans (hb3.mono (show wr.heap.size ≤ wr.heap.size from Nat.le_refl _)); have q0 := (hb4.cell (p := ⟨w.heap.size + 1, 0, none⟩) hS).trans a0; have q1 := (hb4.cell (p := ⟨w.heap.size + 1, 1, none⟩) hS).trans a1; have q2 := (hb4.cell (p := ⟨g, o + k * 2, none⟩) hgr).trans c0; have q3 := (hb4.cell (p := ⟨g, o + k * 2 + 1, none⟩) hgr).trans c1)
          | (go_at_call 29; refine (iFracAdd_any a b u v (wr.alloc (.cells #[.int .i64 0, .int .i64 0] 44)).drew).mono ?_; rintro e w3 ⟨rfl, hb3⟩; rw [Had.out]; have hb4 : Below wr.heap.size wr w3 := ((Below.refl _ _).alloc (Nat.le_refl _) _).drew.trans (hb3.mono (by simp)); have hz3 : wr.heap.size + 1 ≤ w3.heap.size := (by have h8 := hb3.size; simpa using h8); have n0 := (hb3.cell (p := ⟨wr.heap.size, 0, none⟩) (by simp)).trans (show World.cell? _ _ = some (.int .i64 0) by simp [go_sem]); have n1 := (hb3.cell (p := ⟨wr.heap.size, 1, none⟩) (by simp)).trans (show World.cell? _ _ = some (.int .i64 0) by simp [go_sem]); have n2 := (hb3.frozen (p := ⟨wr.heap.size, 0, none⟩) (by simp)).trans (show World.frozen? _ _ = false by simp [go_sem]); have n3 := (hb3.frozen (p := ⟨wr.heap.size, 1, none⟩) (by simp)).trans (show World.frozen? _ _ = false by simp [go_sem]); have q0 := (hb4.cell (p := ⟨w.heap.size + 1, 0, none⟩) hS).trans a0; have q1 := (hb4.cell (p := ⟨w.heap.size + 1, 1, none⟩) hS).trans a1; have q2 := (hb4.cell (p := ⟨g, o + k * 2, none⟩) hgr).trans c0; have q3 := (hb4.cell (p := ⟨g, o + k * 2 + 1, none⟩) hgr).trans c1))
      all_goals first
        | (obtain ⟨P7, hP7⟩ : ∃ P7, P7 = w3.heap.size := ⟨_, rfl⟩
           obtain ⟨w4, hw4⟩ : ∃ w4, w3.alloc (.cells #[.int .i64 x, .int .i64 y] 44) = w4 := ⟨_, rfl⟩
           rw [hw4, ← hP7]
           have s0 : w4.cell? ⟨P7, 0, none⟩ = some (.int .i64 x) := by rw [← hw4, hP7]; simp [go_sem]
           have s1 : w4.cell? ⟨P7, 1, none⟩ = some (.int .i64 y) := by rw [← hw4, hP7]; simp [go_sem]
           have hb5 : Below wr.heap.size wr w4 := by rw [← hw4]; exact hb4.alloc hb4.size _
           have hPz : wr.heap.size ≤ P7 := by rw [hP7]; exact hb4.size)
        | (obtain ⟨P7, hP7⟩ : ∃ P7, P7 = wr.heap.size := ⟨_, rfl⟩
           obtain ⟨w4, hw4⟩ : ∃ w4, (w3.setCell ⟨wr.heap.size, 0, none⟩ (.int .i64 x)).setCell ⟨wr.heap.size, 1, none⟩ (.int .i64 y) = w4 := ⟨_, rfl⟩
           rw [hw4, ← hP7]
           have s0 : w4.cell? ⟨P7, 0, none⟩ = some (.int .i64 x) := by rw [← hw4, hP7]; simp [go_sem, n0]
           have s1 : w4.cell? ⟨P7, 1, none⟩ = some (.int .i64 y) := by rw [← hw4, hP7]; simp [go_sem, n1]
           have hb5 : Below wr.heap.size wr w4 := by rw [← hw4]; exact (hb4.setCell (Nat.le_refl _) _).setCell (Nat.le_refl _) _
           have hPz : wr.heap.size ≤ P7 := by omega)
      all_goals
        have F5 : Bx w4 [(⟨w.heap.size + 1, 0, none⟩, .int .i64 a), (⟨w.heap.size + 1, 1, none⟩, .int .i64 b), (⟨w.heap.size, 0, none⟩, .int .i64 0), (⟨w.heap.size, 1, none⟩, .int .i64 0)] := Bx.later hb5 (by simp [Bx, a0, a1, f0, f1, r0, r1, g0, g1])
        have G5 := F5
        simp only [Bx, and_true] at G5
        have hB5 : Below w.heap.size w w4 := hb.trans (hb5.mono hz)
        have k5 : ¬ P7 = w.heap.size + 1 := by omega
        have k6 : ¬ w.heap.size + 1 = P7 := by omega
        clear hw4 hP7 hb3 hb4 hb5 q0 q1 q2 q3 a0 a1 f0 f1 r0 r1 g0 g1 c0 c1 k1 k2 k3 k4 F5
        go_wp2_with fail
        go_roundw
        case rel => exact ⟨k + 1, x, y, by omega, by go_num, Hxy.out, by simp [Bx, go_sem, G5], (by repeat (first | exact Below.refl _ _ | assumption | refine below_drewN ?_ _ | refine Below.drew ?_ | refine Below.alloc ?_ (by first | exact Nat.le_refl _ | omega | (simp; done) | (simp; omega)) _ | refine Below.setCell ?_ (by first | exact Nat.le_refl _ | omega | (simp; done) | (simp; omega)) _))⟩
        case measure => simp [intOf]; omega
    · have hkn : k = n := by omega
      subst hkn
      go_wp2_with fail
      exact bodyPost_ret (v := .agg #[.int .i64 a, .int .i64 b]) (by simp [results, Try.results28, go_sem, r0, r1]) rfl ⟨by rw [hab.out], (by repeat (first | exact Below.refl _ _ | assumption | refine below_drewN ?_ _ | refine Below.drew ?_ | refine Below.alloc ?_ (by first | exact Nat.le_refl _ | omega | (simp; done) | (simp; omega)) _ | refine Below.setCell ?_ (by first | exact Nat.le_refl _ | omega | (simp; done) | (simp; omega)) _))⟩
end Go.Proofs.Ytiglkajafdecgaa
