/-
  The walks of the program's PairTop: beatsOthers, PairTop.
-/
import Derived.Test.YtdcfpobjiofnmaaBest
import Derived.Test.YtdcfpobjiofnmaaTopPlain
import Derived.Test.YtdcfpobjiofnmaaOnes
namespace Go.Proofs.Ytdcfpobjiofnmaa
set_option linter.unusedVariables false
open Go.RowKit

theorem Bp.land_one : ∀ k : Nat, k < 32 → bits BinOp.and IntKind.i64 (k : Int) 1 = ((k % 2 : Nat) : Int) := by decide +kernel
/-- whether x is in the set D -/
def Bp.isIn (D x : Nat) : Bool := D / 2 ^ x % 2 == 1
theorem Bp.shr_and (D x : Nat) (hD : D < 32) : bits BinOp.and IntKind.i64 ((D : Int) / 2 ^ x) 1 = if Bp.isIn D x then 1 else 0 := by
  have e : ((D : Int) / 2 ^ x) = ((D / 2 ^ x : Nat) : Int) := by simp
  have hlt : D / 2 ^ x < 32 := Nat.lt_of_le_of_lt (Nat.div_le_self _ _) hD
  rw [e, Bp.land_one _ hlt]
  unfold Bp.isIn
  rcases (show D / 2 ^ x % 2 = 0 ∨ D / 2 ^ x % 2 = 1 by omega) with h | h
  · rw [h]; rfl
  · rw [h]; rfl
/-- whether each member of a set beats each other one who is not in it -/
def Bp.Beats (f : Nat → Nat → Int) (m D : Nat) : Prop := ∀ x y, x < m → y < m → Bp.isIn D x = true → Bp.isIn D y = false → f y x < f x y

set_option maxRecDepth 100000 in
set_option maxHeartbeats 4000000 in
theorem beatsOthers_any (gc m cc : Nat) (D : Nat) (f : Nat → Nat → Int) (B : Nat) (w : World) (h : TabV w B (some ⟨gc, 0, none⟩) m (Bp.tabs m f)) (m5 : m ≤ 5) (hcc : m ≤ cc) (hD : D < 32) :
    Calls Try.prog 59 #[.slice (some ⟨gc, 0, none⟩) m cc, .int .i64 D] w fun e w' => ∃ v : Bool, e = .returned (.bool v) ∧ (v = true ↔ Bp.Beats f m D) ∧ Drawn w w' := by
  go_enter Try.func59, Try.ntmps59
  go_wp2_with fail
  go_loopw [9] (fun i wr => ∃ x : Nat, x ≤ m ∧ i = .int .i64 x ∧ Hid (∀ a y, a < x → y < m → Bp.isIn D a = true → Bp.isIn D y = false → f y a < f a y) ∧ Drawn w wr) (fun i _ => m - (intOf i).toNat)
  case atStart => exact ⟨0, Nat.zero_le _, rfl, (fun a y ha => absurd ha (by omega)), Drawn.refl _⟩
  case round =>
    obtain ⟨x, hx, rfl, hall, hd⟩ := hrel
    by_cases hxl : x < m
    · obtain ⟨wo, rfl⟩ : ∃ wo : World, wo = wr := ⟨_, rfl⟩
      go_wp2_with fail
      go_loopw [14] (fun i wi => ∃ y : Nat, y ≤ m ∧ i = .int .i64 y ∧ Hid (∀ b, b < y → Bp.isIn D x = true → Bp.isIn D b = false → f b x < f x b) ∧ Drawn w wi) (fun i _ => m - (intOf i).toNat)
      case atStart => exact ⟨0, Nat.zero_le _, rfl, (fun b hb => absurd hb (by omega)), hd⟩
      case round =>
        obtain ⟨y, hy, rfl, hrow, hd⟩ := hrel
        by_cases hyl : y < m
        · have i1 : (0 : Int) ≤ (x : Int) := by omega
          have i2 : (x : Int) < (m : Int) := by omega
          have i3 : (0 : Int) ≤ (y : Int) := by omega
          have i4 : (y : Int) < (m : Int) := by omega
          have bx := Bp.shr_and D x hD
          have by' := Bp.shr_and D y hD
          obtain ⟨ga, oa, ca, a1, ar⟩ := (h.below (hd.below B)).row_of rfl hxl
          obtain ⟨gb, ob, cb, b1, br⟩ := (h.below (hd.below B)).row_of rfl hyl
          have a2 := ar y hyl
          have b2 := br x hxl
          simp only [Nat.zero_add] at a1 b1
          have hnext : (Bp.isIn D x = true → Bp.isIn D y = false → f y x < f x y) → Hid (∀ b, b < y + 1 → Bp.isIn D x = true → Bp.isIn D b = false → f b x < f x b) := fun hq b hb h1 h2 => by
            by_cases e : b = y
            · subst e; exact hq h1 h2
            · exact hrow.out b (by omega) h1 h2
          obtain ⟨v1, hv1⟩ : ∃ z, f x y = z := ⟨_, rfl⟩
          obtain ⟨v2, hv2⟩ : ∃ z, f y x = z := ⟨_, rfl⟩
          rw [hv1] at a2 hnext
          rw [hv2] at b2 hnext
          have Hv1 := Lib.hid hv1
          have Hv2 := Lib.hid hv2
          have Hnext := Lib.hid hnext
          clear ar br hv1 hv2 hnext
          rcases (show Bp.isIn D x = false ∨ Bp.isIn D x = true by cases Bp.isIn D x <;> simp) with hix | hix
          · rw [hix, if_neg (by simp)] at bx
            have Hix := Lib.hid hix
            clear hix by'
            go_wp2_with fail
            go_quiet (fail)
            go_wp2_with fail
            go_roundw
            case rel => exact ⟨y + 1, by omega, by go_num, Hnext.out (fun e => by rw [Hix.out] at e; cases e), hd.drewN _⟩
            case measure => simp [intOf]; omega
          · rw [hix, if_pos rfl] at bx
            have Hix := Lib.hid hix
            rcases (show Bp.isIn D y = false ∨ Bp.isIn D y = true by cases Bp.isIn D y <;> simp) with hiy | hiy
            · rw [hiy, if_neg (by simp)] at by'
              have Hiy := Lib.hid hiy
              clear hix hiy
              by_cases hle : v1 ≤ v2
              · have d1 : decide (v1 ≤ v2) = true := decide_eq_true hle
                have Hle := Lib.hid hle
                go_wp2_with fail
                go_quiet (fail)
                go_wp2_with fail
                go_ret
                exact ⟨false, rfl, ⟨(fun e => by cases e), fun hB => by
                  have := hB x y hxl hyl Hix.out Hiy.out
                  rw [Hv1.out, Hv2.out] at this
                  have := Hle.out
                  omega⟩, hd.drewN _⟩
              · have d1 : decide (v1 ≤ v2) = false := decide_eq_false hle
                have Hle := Lib.hid hle
                go_wp2_with fail
                go_quiet (fail)
                go_wp2_with fail
                go_roundw
                case rel => exact ⟨y + 1, by omega, by go_num, Hnext.out (fun _ _ => by have := Hle.out; omega), hd.drewN _⟩
                case measure => simp [intOf]; omega
            · rw [hiy, if_pos rfl] at by'
              have Hiy := Lib.hid hiy
              clear hix hiy
              go_wp2_with fail
              go_quiet (fail)
              go_wp2_with fail
              go_roundw
              case rel => exact ⟨y + 1, by omega, by go_num, Hnext.out (fun _ e => by rw [Hiy.out] at e; cases e), hd.drewN _⟩
              case measure => simp [intOf]; omega
        · go_wp2_with fail
          go_roundw
          case rel => exact ⟨x + 1, by omega, by go_num, (fun a b ha hb h1 h2 => by
            by_cases e : a = x
            · subst e; exact hrow.out b (by omega) h1 h2
            · exact hall.out a b (by omega) hb h1 h2), hd⟩
          case measure => simp [intOf]; omega
    · go_wp2_with fail
      go_ret
      exact ⟨true, rfl, ⟨fun _ a b ha hb => hall.out a b (by omega) hb, fun _ => rfl⟩, hd⟩
end Go.Proofs.Ytdcfpobjiofnmaa
