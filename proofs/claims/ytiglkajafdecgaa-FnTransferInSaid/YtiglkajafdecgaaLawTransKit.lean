/-
  The walks of the laws' sameFracs, sameSteps, hasInt.
-/
import Derived.Test.YtiglkajafdecgaaTransOut
import Derived.Test.YtiglkajafdecgaaSameInts
import Derived.Deep.RegionHeld
namespace Go.Proofs.Ytiglkajafdecgaa
set_option linter.unusedVariables false
open Go.RowKit

set_option maxRecDepth 100000 in
set_option maxHeartbeats 1000000 in
theorem sameFracs_same (A A' : Option Addr) (n c n' c' : Nat) (fs : List Bp.Fr) (B B' : Nat) (w : World) (h : Fracs w B A n fs) (h' : Fracs w B' A' n' fs) (hn : n ≤ 1048576) :
    Calls Try.prog 45 #[.slice A n c, .slice A' n' c'] w fun e w' => e = .returned (.bool true) ∧ Drawn w w' := by
  have hnn : n = n' := by rw [← h.1, ← h'.1]
  subst hnn
  go_enter Try.func45, Try.ntmps45
  go_wp2
  go_loopw [5] (fun i wr => ∃ k : Nat, k ≤ n ∧ i = .int .i64 k ∧ Drawn w wr) (fun i _ => n - (intOf i).toNat)
  case atStart => exact ⟨0, Nat.zero_le _, rfl, Drawn.refl _⟩
  case round =>
    obtain ⟨k, hk, rfl, hd⟩ := hrel
    by_cases hlt : k < n
    · obtain ⟨g1, o1, a, b, rfl, hg1, x0, x1, hab⟩ := (h.below (hd.below B)).at hlt
      obtain ⟨g2, o2, a2, b2, rfl, hg2, y0, y1, hab2⟩ := (h'.below (hd.below B')).at hlt
      have he : (a2, b2) = (a, b) := hab2.out.symm.trans hab.out
      injection he with e1 e2
      subst e1; subst e2
      have i1 : (0 : Int) ≤ (k : Int) := by omega
      have i2 : (k : Int) < (n : Int) := by omega
      go_wp2_with fail
      go_quiet (fail)
      go_wp2_with fail
      go_roundw
      case rel => exact ⟨k + 1, by omega, by go_num, hd.drewN _⟩
      case measure => simp [intOf]; omega
    · go_wp2_with fail
      go_ret
      exact ⟨rfl, hd⟩
set_option maxRecDepth 100000 in
set_option maxHeartbeats 4000000 in
theorem sameSteps_same (A A' : Option Addr) (n c n' c' : Nat) (ss : List Bp.Stp) (B B' : Nat) (w : World) (h : StepsV w B A n ss) (h' : StepsV w B' A' n' ss) (hB : B ≤ w.heap.size) (hB' : B' ≤ w.heap.size) (hn : n ≤ 1048576) (hs : ∀ k, (ss.getD k default).frs.length ≤ 1048576) :
    Calls Try.prog 23 #[.slice A n c, .slice A' n' c'] w fun e w' => e = .returned (.bool true) ∧ Drawn w w' := by
  have hnn : n = n' := by rw [← h.1, ← h'.1]
  subst hnn
  have Hs := Lib.hid hs
  clear hs
  go_enter Try.func23, Try.ntmps23
  go_wp2
  go_loopw [5] (fun i wr => ∃ k : Nat, k ≤ n ∧ i = .int .i64 k ∧ Drawn w wr) (fun i _ => n - (intOf i).toNat)
  case atStart => exact ⟨0, Nat.zero_le _, rfl, Drawn.refl _⟩
  case round =>
    obtain ⟨k, hk, rfl, hd⟩ := hrel
    have hb := hd.below w.heap.size
    by_cases hlt : k < n
    · obtain ⟨g1, o1, B1, m1, d1, who, kind, rfl, hg1, x0, hm1, hf1, x1, x2, hwk⟩ := (h.below (hd.below B)).at hlt
      obtain ⟨g2, o2, B2, m2, d2, who2, kind2, rfl, hg2, y0, hm2, hf2, y1, y2, hwk2⟩ := (h'.below (hd.below B')).at hlt
      obtain ⟨e1, e2⟩ := hwk2.out
      rw [hwk.out.1] at e1
      rw [hwk.out.2] at e2
      subst e1; subst e2
      have hm1b : m1 ≤ 1048576 := by
        have := Hs.out k
        have h3 := hf1.1
        omega
      have i1 : (0 : Int) ≤ (k : Int) := by omega
      have i2 : (k : Int) < (n : Int) := by omega
      have hcall := sameFracs_same B1 B2 m1 d1 m2 d2 _ _ _ wr.drew (hf1.below ((Below.refl _ _).drew)) (hf2.below ((Below.refl _ _).drew)) hm1b
      have hsz := hb.size
      have hg1' : g1 < wr.drew.heap.size := by show g1 < wr.heap.size; omega
      have hg2' : g2 < wr.drew.heap.size := by show g2 < wr.heap.size; omega
      have Hcall := Lib.hid hcall
      clear hcall
      go_wp2_with fail
      go_region_held (fun w' => ((w'.cell? ⟨g1, o1 + k * 3 + 1, none⟩ = some (.int .i64 who) ∧ w'.cell? ⟨g1, o1 + k * 3 + 2, none⟩ = some (.int .i64 kind)) ∧ w'.cell? ⟨g1, o1 + k * 3, none⟩ = some (.slice B1 m1 d1)) ∧ (w'.cell? ⟨g2, o2 + k * 3 + 1, none⟩ = some (.int .i64 who) ∧ w'.cell? ⟨g2, o2 + k * 3 + 2, none⟩ = some (.int .i64 kind)) ∧ w'.cell? ⟨g2, o2 + k * 3, none⟩ = some (.slice B2 m2 d2)) (go_keep)
        ((go_at_call 45; refine Hcall.out.mono ?_; rintro e w5 ⟨rfl, hd5⟩; have hb5 := hd5.below wr.drew.heap.size; have f1 := (hb5.cell (p := ⟨g1, o1 + k * 3 + 1, none⟩) hg1').trans x1; have f2 := (hb5.cell (p := ⟨g1, o1 + k * 3 + 2, none⟩) hg1').trans x2; have f3 := (hb5.cell (p := ⟨g1, o1 + k * 3, none⟩) hg1').trans x0; have f4 := (hb5.cell (p := ⟨g2, o2 + k * 3 + 1, none⟩) hg2').trans y1; have f5 := (hb5.cell (p := ⟨g2, o2 + k * 3 + 2, none⟩) hg2').trans y2; have f6 := (hb5.cell (p := ⟨g2, o2 + k * 3, none⟩) hg2').trans y0))
      all_goals
        go_wp2_with fail
        go_roundw
        case rel => exact ⟨k + 1, by omega, by go_num, hd.drew.trans hd5⟩
        case measure => simp [intOf]; omega
    · go_wp2_with fail
      go_ret
      exact ⟨rfl, hd⟩
set_option maxRecDepth 100000 in
set_option maxHeartbeats 400000 in
theorem hasInt_any (A : Option Addr) (n c : Nat) (x : Int) (zs : List Int) (B : Nat) (w : World) (h : Ints w B A n zs) (hn : n ≤ 1048576) :
    Calls Try.prog 27 #[.slice A n c, .int .i64 x] w fun e w' => e = .returned (.bool (Bp.has zs x)) ∧ w = w' := by
  have hl := Lib.hid h.1
  go_enter Try.func27, Try.ntmps27
  go_wp2
  go_loop [5] (fun i => ∃ k : Nat, k ≤ n ∧ i = .int .i64 k ∧ Hid (∀ j, j < k → zs.getD j 0 ≠ x)) (fun i => n - (intOf i).toNat)
  case atStart => exact ⟨0, Nat.zero_le _, rfl, fun j hj => absurd hj (by omega)⟩
  case round =>
    obtain ⟨k, hk, rfl, hq⟩ := hrel
    by_cases hlt : k < n
    · obtain ⟨g, o, z, rfl, _, hc, hz⟩ := h.at hlt
      have i1 : (0 : Int) ≤ (k : Int) := by omega
      have i2 : (k : Int) < (n : Int) := by omega
      by_cases hx : z = x
      · have hb : (z == x) = true := by simpa using hx
        have Hx := Lib.hid hx
        clear hx
        go_wp2
        go_ret
        exact ⟨ret_bool (Bp.has_true zs x k (by rw [hl.out]; exact hlt) (by rw [hz.out, Hx.out])).symm, rfl⟩
      · have hb : (z == x) = false := by simpa using hx
        have Hx := Lib.hid hx
        clear hx
        go_wp2
        go_round
        case rel => exact ⟨k + 1, by omega, by go_num, fun j hj => by
          by_cases hj' : j = k
          · subst hj'; rw [hz.out]; exact Hx.out
          · exact hq.out j (by omega)⟩
        case measure => simp [intOf]; omega
    · go_wp2
      go_ret
      exact ⟨ret_bool (Bp.has_false zs x (fun j hj => hq.out j (by rw [hl.out] at hj; omega))).symm, rfl⟩
theorem hasInt_val (A : Option Addr) (n c : Nat) (x : Int) (zs : List Int) (v : Bool) (hv : Bp.has zs x = v) (B : Nat) (w : World) (h : Ints w B A n zs) (hn : n ≤ 1048576) :
    Calls Try.prog 27 #[.slice A n c, .int .i64 x] w fun e w' => e = .returned (.bool v) ∧ w = w' := by
  subst hv; exact hasInt_any A n c x zs B w h hn
end Go.Proofs.Ytiglkajafdecgaa
