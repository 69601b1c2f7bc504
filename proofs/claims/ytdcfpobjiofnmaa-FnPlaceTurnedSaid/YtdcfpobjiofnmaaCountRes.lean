/-
  The walks of PlaceCounts, DepthCounts, LastCounts: the program's and the reference's.
-/
import Derived.Test.YtdcfpobjiofnmaaCountSpec
namespace Go.Proofs.Ytdcfpobjiofnmaa
set_option linter.unusedVariables false
open Go.RowKit

/-- the counts where there are any -/
def cres (ok : Bool) (zs : List Int) : List Int := if ok then zs else []
theorem cres_yes {ok : Bool} (h : ok = true) (zs : List Int) : cres ok zs = zs := by simp [cres, h]
theorem cres_no {ok : Bool} (h : ok = false) (zs : List Int) : cres ok zs = [] := by simp [cres, h]
/-- what a function of counts leaves: a row of the call's own, and whether there is one -/
def CountRes (ok : Bool) (zs : List Int) (w : World) (e : Ending) (w' : World) : Prop :=
  ∃ (A : Option Addr) (n c : Nat), e = .returned (.tuple #[.slice A n c, .bool ok]) ∧ n ≤ c ∧ n ≤ 5 ∧ Own w' w.heap.size (.slice A n c) n (cres ok zs) ∧ Below w.heap.size w w'
theorem res_empty {w : World} {base : Nat} (h : base ≤ w.heap.size) : Own (w.alloc (.cells #[] 3)) base (.slice (some ⟨w.heap.size, 0, none⟩) 0 0) 0 [] := World.ownsRow_lit w #[] 0 h (by decide) rfl


set_option maxRecDepth 100000 in
set_option maxHeartbeats 400000 in
theorem iPlaceCounts_any (A : Option Addr) (n c : Nat) (q : Int) (ps : List Bp.Pile) (w : World) (h : Piles w w.heap.size A n ps) (hn : n ≤ 1048576) (hnc : n ≤ c) :
    Calls Try.prog 46 #[.slice A n c, .int .i64 q] w (CountRes (Bp.fits ps q) (Bp.counted (Bp.ptsPlace q) ps q.toNat) w) := by
  cases hf : Bp.fits ps q
  · have Hf := Lib.hid hf
    go_enter Try.func46, Try.ntmps46
    go_wp2_with fail
    refine (pilesFit_any A n c q ps _ ((h.below (by repeat (first | exact Below.refl _ _ | assumption | refine below_drewN ?_ _ | refine Below.drew ?_ | refine Below.alloc ?_ (by first | exact Nat.le_refl _ | omega | (simp; done) | (simp; omega)) _ | refine Below.setCell ?_ (by first | exact Nat.le_refl _ | omega | (simp; done) | (simp; omega)) _))).mono (by first | omega | (simp; done) | (simp; omega))) hn hnc).mono ?_
    rintro e w1 ⟨rfl, hb1⟩
    have hB1 : Below w.heap.size w w1 := Below.trans (by repeat (first | exact Below.refl _ _ | assumption | refine below_drewN ?_ _ | refine Below.drew ?_ | refine Below.alloc ?_ (by first | exact Nat.le_refl _ | omega | (simp; done) | (simp; omega)) _ | refine Below.setCell ?_ (by first | exact Nat.le_refl _ | omega | (simp; done) | (simp; omega)) _)) (hb1.mono (by first | omega | (simp; done) | (simp; omega)))
    go_wp2_with fail
    go_ret2
    exact ⟨none, 0, 0, by skip; rfl, Nat.le_refl _, by omega, by rw [cres_no rfl]; exact Own.nil _ _, hB1⟩
  · have Hf := Lib.hid hf
    obtain ⟨q1, q5⟩ := Bp.fits_n hf
    obtain ⟨m, rfl⟩ := Int.eq_ofNat_of_zero_le (show 0 ≤ q by omega)
    rw [Int.toNat_natCast]
    go_enter Try.func46, Try.ntmps46
    go_wp2_with fail
    refine (pilesFit_any A n c m ps _ ((h.below (by repeat (first | exact Below.refl _ _ | assumption | refine below_drewN ?_ _ | refine Below.drew ?_ | refine Below.alloc ?_ (by first | exact Nat.le_refl _ | omega | (simp; done) | (simp; omega)) _ | refine Below.setCell ?_ (by first | exact Nat.le_refl _ | omega | (simp; done) | (simp; omega)) _))).mono (by first | omega | (simp; done) | (simp; omega))) hn hnc).mono ?_
    rintro e w1 ⟨rfl, hb1⟩
    have hB1 : Below w.heap.size w w1 := Below.trans (by repeat (first | exact Below.refl _ _ | assumption | refine below_drewN ?_ _ | refine Below.drew ?_ | refine Below.alloc ?_ (by first | exact Nat.le_refl _ | omega | (simp; done) | (simp; omega)) _ | refine Below.setCell ?_ (by first | exact Nat.le_refl _ | omega | (simp; done) | (simp; omega)) _)) (hb1.mono (by first | omega | (simp; done) | (simp; omega)))
    have hbx : w1.cell? ⟨w.heap.size, 0, none⟩ = some (.int .i64 m) := cell_later hb1 (by simp [go_sem])
    go_wp2_with fail
    refine (placesPlace_any A n c m m w.heap.size ps _ ((h.below hB1).mono hB1.size) hn Hf.out hbx rfl).mono ?_
    rintro e w2 ⟨g, rfl, hg, hown, hb2⟩
    go_wp2_with fail
    go_ret2
    refine ⟨_, m, m, by skip; rfl, Nat.le_refl _, by omega, ?_, hB1.trans (hb2.mono hB1.size)⟩
    rw [cres_yes rfl]
    exact hown.base (Nat.le_trans hB1.size hg)








end Go.Proofs.Ytdcfpobjiofnmaa
