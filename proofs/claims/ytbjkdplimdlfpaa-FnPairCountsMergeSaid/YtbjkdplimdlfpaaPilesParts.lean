/-
  Parts of piles in memory.
-/
import Derived.Test.YtbjkdplimdlfpaaSmall
namespace Go.Proofs.Ytbjkdplimdlfpaa
set_option linter.unusedVariables false
open Go.RowKit

theorem PilesR.take {w : World} {B n : Nat} {A : Option Addr} {ps : List (ByteArray × Int)} (h : PilesR w B A n ps) {k : Nat} (hk : k ≤ n) : PilesR w B A k (ps.take k) := ⟨by rw [List.length_take, h.1]; omega, fun hn => by
  obtain ⟨g, o, e, hl, hc⟩ := h.2 (by omega)
  refine ⟨g, o, e, hl, fun j hj => ?_⟩
  have e2 : (ps.take k).getD j default = ps.getD j default := by simp [List.getD, hj]
  rw [e2]
  exact hc j (by omega)⟩
theorem PilesR.drop {w : World} {B n g o : Nat} {ps : List (ByteArray × Int)} (h : PilesR w B (some ⟨g, o, none⟩) n ps) {k : Nat} : PilesR w B (some ⟨g, o + k * 2, none⟩) (n - k) (ps.drop k) := ⟨by rw [List.length_drop, h.1], fun hn => by
  obtain ⟨g', o', e, hl, hc⟩ := h.2 (by omega)
  injection e with e
  injection e with e1 e2
  subst e1; subst e2
  refine ⟨g, o + k * 2, rfl, hl, fun j hj => ?_⟩
  have e2 : (ps.drop k).getD j default = ps.getD (k + j) default := by simp [List.getD]
  rw [e2, show o + k * 2 + j * 2 = o + (k + j) * 2 by omega]
  exact hc (k + j) (by omega)⟩
theorem Piles.take {w : World} {B n : Nat} {A : Option Addr} {ps : List (ByteArray × Int)} (h : Piles w B A n ps) {k : Nat} (hk : k ≤ n) : Piles w B A k (ps.take k) :=
  (h.raw.take hk).fine (fun p hp => h.1.2 p (List.mem_of_mem_take hp))
theorem Piles.drop {w : World} {B n g o : Nat} {ps : List (ByteArray × Int)} (h : Piles w B (some ⟨g, o, none⟩) n ps) {k : Nat} : Piles w B (some ⟨g, o + k * 2, none⟩) (n - k) (ps.drop k) :=
  h.raw.drop.fine (fun p hp => h.1.2 p (List.mem_of_mem_drop hp))
theorem Piles.empty {w : World} {B : Nat} (A : Option Addr) : Piles w B A 0 [] := ⟨⟨rfl, fun p hp => by cases hp⟩, fun h => absurd h (by omega)⟩
end Go.Proofs.Ytbjkdplimdlfpaa
