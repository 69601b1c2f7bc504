/-
  The laws' comparison of tables.
-/
import Derived.Test.YtgcihnhljeahjaaDrawPairs
import Derived.Test.YtgcihnhljeahjaaPairS
import Derived.Test.YtgcihnhljeahjaaPairLawPlain
import Derived.Test.YtgcihnhljeahjaaTotals
import Derived.Test.YtgcihnhljeahjaaSameInts
import Derived.Deep.RegionHeld
namespace Go.Proofs.Ytgcihnhljeahjaa
set_option linter.unusedVariables false
open Go.RowKit

theorem Bp.tabs_short (n : Nat) (f : Nat → Nat → Int) (i : Nat) (h : n ≤ 1024) : ((Bp.tabs n f).getD i []).length ≤ 1024 := by
  by_cases hi : i < n
  · rw [Bp.tabs_at _ _ hi, Bp.tab_len]; omega
  · have e : (Bp.tabs n f).getD i [] = [] := by unfold List.getD; rw [List.getElem?_eq_none (by rw [Bp.tabs_len]; omega)]; rfl
    rw [e]; simp
/-- one row of a table of functions -/
theorem TabV.line {w : World} {B n : Nat} {A : Option Addr} {g o : Nat} {f : Nat → Nat → Int} (h : TabV w B A n (Bp.tabs n f)) (hA : A = some ⟨g, o, none⟩) {x : Nat} (hx : x < n) :
    ∃ g' o' c, w.cell? ⟨g, o + x, none⟩ = some (.slice (some ⟨g', o', none⟩) n c) ∧ ∀ y, y < n → w.cell? ⟨g', o' + y, none⟩ = some (.int .i64 (f x y)) := by
  have hm : ((Bp.tabs n f).getD x []).length = n := by rw [Bp.tabs_at _ _ hx, Bp.tab_len]
  obtain ⟨g', o', c, h1, _, _, _⟩ := h.get hA hx hm hx
  refine ⟨g', o', c, h1, fun y hy => ?_⟩
  obtain ⟨g2, o2, c2, h2, h3, _, _⟩ := h.get hA hx hm hy
  rw [h1] at h2
  injection h2 with h2
  injection h2 with h2 _ _
  injection h2 with h2
  injection h2 with e1 e2
  subst e1; subst e2
  rw [Bp.tabs_cell _ _ hx hy] at h3
  exact h3
set_option maxRecDepth 100000 in
set_option maxHeartbeats 400000 in
theorem sameTable_same (A A' : Option Addr) (n c n' c' : Nat) (rows : List (List Int)) (B B' : Nat) (w : World) (h : TabV w B A n rows) (h' : TabV w B' A' n' rows) (hn : n ≤ 1048576) (hm : ∀ i, (rows.getD i []).length ≤ 1024) :
    Calls Try.prog 20 #[.slice A n c, .slice A' n' c'] w fun e w' => e = .returned (.bool true) ∧ Drawn w w' := by
  have hnn : n' = n := by rw [← h.1, h'.1]
  subst hnn
  have Hm := Lib.hid hm
  clear hm
  go_enter Try.func20, Try.ntmps20
  go_wp2
  go_loopw [5] (fun i wr => ∃ k : Nat, k ≤ n' ∧ i = .int .i64 k ∧ Drawn w wr) (fun i _ => n' - (intOf i).toNat)
  case atStart => exact ⟨0, Nat.zero_le _, rfl, Drawn.refl _⟩
  case round =>
    obtain ⟨k, hk, rfl, hd⟩ := hrel
    by_cases hlt : k < n'
    · obtain ⟨g1, o1, B1, m1, d1, zs1, rfl, hg1, hc1, hm1, hz1, hr1⟩ := (h.below (hd.below B)).at hlt
      obtain ⟨g2, o2, B2, m2, d2, zs2, rfl, hg2, hc2, hm2, hz2, hr2⟩ := (h'.below (hd.below B')).at hlt
      have hzz : zs2 = zs1 := by rw [← hr1.out, ← hr2.out]
      subst hzz
      have hmb := Hm.out k
      rw [hr1.out, hz1.1] at hmb
      have hcall := sameInts_any B1 B2 m1 d1 m2 d2 zs2 zs2 _ _ wr.drew (hz1.below ((Below.refl _ _).drew)) (hz2.below ((Below.refl _ _).drew)) (by omega)
      rw [show decide (zs2 = zs2) = true by simp] at hcall
      have Hcall := Lib.hid hcall
      have i1 : (0 : Int) ≤ (k : Int) := by omega
      have i2 : (k : Int) < (n' : Int) := by omega
      clear hcall
      go_wp2_with fail
      go_region_held (fun w' => w'.cell? ⟨g1, o1 + k, none⟩ = some (.slice B1 m1 d1) ∧ w'.cell? ⟨g2, o2 + k, none⟩ = some (.slice B2 m2 d2)) (go_keep)
        ((go_at_call 23; refine Hcall.out.mono ?_; rintro e w5 ⟨rfl, hd5⟩; have f1 := ((hd5.below B).cell (p := ⟨g1, o1 + k, none⟩) hg1).trans hc1; have f2 := ((hd5.below B').cell (p := ⟨g2, o2 + k, none⟩) hg2).trans hc2))
      all_goals
        go_wp2_with fail
        go_roundw
        case rel => exact ⟨k + 1, by omega, by go_num, hd.drew.trans hd5⟩
        case measure => simp [intOf]; omega
    · go_wp2_with fail
      go_ret
      exact ⟨rfl, hd⟩
end Go.Proofs.Ytgcihnhljeahjaa
