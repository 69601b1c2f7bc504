/-
  The laws of sums and products of fractions, without a program.
-/
import Derived.Test.YtpkkgkepmbpkeaaFracPlain
namespace Go.Proofs.Ytpkkgkepmbpkeaa.Fp
set_option linter.unusedVariables false

theorem add_yes {a b c d x y : Int} (h : add a b c d = (x, y, true)) : vld a b = true ∧ vld c d = true ∧ redo (a * d + c * b) (b * d) = (x, y, true) := by
  unfold add at h
  split at h
  · next hv => simp at hv; exact ⟨hv.1, hv.2, h⟩
  · simp at h
theorem tms_yes {a b c d x y : Int} (h : tms a b c d = (x, y, true)) : vld a b = true ∧ vld c d = true ∧ redo (a * c) (b * d) = (x, y, true) := by
  unfold tms at h
  split at h
  · next hv => simp at hv; exact ⟨hv.1, hv.2, h⟩
  · simp at h
theorem add_text {a b c d x y p q : Int} (h : add a b c d = (x, y, true)) (k : ofn (a * d + c * b) (b * d) = (p, q, true)) : p = x ∧ q = y := by
  obtain ⟨_, _, h⟩ := add_yes h
  unfold ofn at k
  split at k
  · rw [h] at k; simp at k; exact ⟨k.1.symm, k.2.symm⟩
  · simp at k
theorem tms_text {a b c d x y p q : Int} (h : tms a b c d = (x, y, true)) (k : ofn (a * c) (b * d) = (p, q, true)) : p = x ∧ q = y := by
  obtain ⟨_, _, h⟩ := tms_yes h
  unfold ofn at k
  split at k
  · rw [h] at k; simp at k; exact ⟨k.1.symm, k.2.symm⟩
  · simp at k
theorem tms_over {a b c d x y x1 y1 x2 y2 x3 y3 x4 y4 : Int} (h : add a b c d = (x, y, true)) (h1 : tms a b 2 3 = (x1, y1, true)) (h2 : tms c d 2 3 = (x2, y2, true))
    (h3 : tms x y 2 3 = (x3, y3, true)) (h4 : add x1 y1 x2 y2 = (x4, y4, true)) : x4 = x3 ∧ y4 = y3 := by
  obtain ⟨va, vc, h⟩ := add_yes h
  obtain ⟨_, _, h1⟩ := tms_yes h1
  obtain ⟨_, _, h2⟩ := tms_yes h2
  obtain ⟨_, _, h3⟩ := tms_yes h3
  obtain ⟨_, _, h4⟩ := add_yes h4
  obtain ⟨e1, e2, v⟩ := redo_valid _ _ _ _ h
  obtain ⟨e11, e12, v1⟩ := redo_valid _ _ _ _ h1
  obtain ⟨e21, e22, v2⟩ := redo_valid _ _ _ _ h2
  obtain ⟨e31, e32, v3⟩ := redo_valid _ _ _ _ h3
  obtain ⟨e41, e42, v4⟩ := redo_valid _ _ _ _ h4
  obtain ⟨_, _, b1, _, _⟩ := (vld_iff _ _).1 va
  obtain ⟨_, _, d1, _, _⟩ := (vld_iff _ _).1 vc
  obtain ⟨_, _, p0, _, _⟩ := (vld_iff _ _).1 v
  obtain ⟨_, _, p1, _, _⟩ := (vld_iff _ _).1 v1
  obtain ⟨_, _, p2, _, _⟩ := (vld_iff _ _).1 v2
  -- the crosses
  have c0 : x * (b * d) = (a * d + c * b) * y := by rw [e1, e2]; exact red_cross _ _
  have c1 : x1 * (b * 3) = (a * 2) * y1 := by rw [e11, e12]; exact red_cross _ _
  have c2 : x2 * (d * 3) = (c * 2) * y2 := by rw [e21, e22]; exact red_cross _ _
  rw [e31, e32, e41, e42]
  refine red_eq _ _ _ _ (mul_pos _ _ p1 p2) (mul_pos _ _ p0 (by omega)) ?_
  -- (x1*y2 + x2*y1) * (y*3) = (x*2) * (y1*y2)
  have hbd : b * d ≠ 0 := by have := mul_pos b d b1 d1; omega
  refine Int.eq_of_mul_eq_mul_left hbd ?_
  have k1 : b * d * ((x1 * y2 + x2 * y1) * (y * 3)) = (x1 * (b * 3)) * d * y2 * y + (x2 * (d * 3)) * b * y1 * y := by grind
  have k2 : b * d * (x * 2 * (y1 * y2)) = (x * (b * d)) * 2 * y1 * y2 := by grind
  rw [k1, k2, c0, c1, c2]
  grind
end Go.Proofs.Ytpkkgkepmbpkeaa.Fp
