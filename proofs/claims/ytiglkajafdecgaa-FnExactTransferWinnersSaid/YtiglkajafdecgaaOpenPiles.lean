/-
  From what a law's argument reads as to what its walk asks: piles, numbers, truths.
-/
import Derived.Test.YtiglkajafdecgaaBase
import Derived.Deep.SlicePairs
import Derived.Deep.Grids
import Derived.ProofKit
import Derived.OpenShut
import Derived.ShutString
import Derived.ChangeOld
namespace Go.Proofs.Ytiglkajafdecgaa
set_option linter.unusedVariables false
open Go.ChangeShapes Go.WideShapes Go.ChangeAt Go.RowKit Go.Deep

theorem spot_none {w : World} {a : Addr} {v : Value} (h : w.cell? (a.add 0) = some v) : a.spot = none ∧ a.block < w.heap.size := by
  have hs : a.spot = none := by simpa [Addr.add] using World.cell?_spot h
  obtain ⟨b, off, spot⟩ := a
  have : spot = none := hs
  subst this
  exact ⟨rfl, lt_of_cell h⟩
theorem add_off (b off k : Nat) : (⟨b, off, none⟩ : Addr).add k = ⟨b, off + k, none⟩ := by
  unfold Addr.add
  split
  · next h => subst h; rfl
  · rfl

theorem piles_of_open {H : Type} {enc : TypeId × Value → H} {w : World} {fuel : Nat} {cs : List Value} {x : DataW H × List MemPlace} (h : DataW.trod enc Try.prog w 0 (fun _ => true) true fuel 22 cs = some x) :
    ∃ (A : Option Addr) (n c : Nat) (ps : List (ByteArray × Int)), cs = [.slice A n c] ∧ PilesR w w.heap.size A n ps ∧ n ≤ 9223372036854775807 ∧ n ≤ c ∧ ∀ p ∈ ps, p.1.size ≤ 9223372036854775807 := by
  rcases open_slice_pairs Try.underlying22 Try.underlying59 (by kernel_rfl) rfl rfl (by kernel_rfl) (by kernel_rfl) h with ⟨rfl, _⟩ | ⟨a, len, cap, m, n, V0, V1, D0, D1, P0, P1, rfl, _, hl, hm, hmm, _, hx⟩
  · exact ⟨none, 0, 0, [], rfl, ⟨rfl, fun h => absurd h (by omega)⟩, by omega, Nat.le_refl _, fun p hp => by cases hp⟩
  · have hmc : m = cap := hmm
    subst hmc
    have hs : ∀ i, i < m → ∃ q : ByteArray × Int, V0 i = .string q.1 ∧ V1 i = .int .i64 q.2 ∧ q.1.size ≤ maxLen := fun i hi => by
      obtain ⟨_, _, t0, t1⟩ := hx i hi
      obtain ⟨s, e0, _, hsz⟩ := DataW.trod_string (by kernel_rfl) t0
      obtain ⟨z, e1, _, _⟩ := DataW.trod_int (k := .i64) (by kernel_rfl) t1
      exact ⟨(s, z), by simpa using e0, by simpa using e1, hsz⟩
    obtain ⟨Q, hQ⟩ := choose_lt hs
    have hml : m ≤ 9223372036854775807 := by unfold maxLen at hm; exact hm
    refine ⟨some a, len, m, (List.range len).map Q, rfl, ⟨by simp, fun hn => ?_⟩, by omega, hl, ?_⟩
    · obtain ⟨b, off, spot⟩ := a
      obtain ⟨hsp, hb⟩ := spot_none (by simpa using (hx 0 (by omega)).1)
      have hsp' : spot = none := hsp
      subst hsp'
      refine ⟨b, off, rfl, hb, fun k hk => ?_⟩
      obtain ⟨h1, h2, _, _⟩ := hx k (by omega)
      obtain ⟨q1, q2, _⟩ := hQ k (by omega)
      rw [add_off] at h1 h2
      have e : ((List.range len).map Q).getD k default = Q k := by simp [List.getD, hk]
      rw [e, ← q1, ← q2]
      exact ⟨h1, h2⟩
    · intro p hp
      obtain ⟨i, hi, rfl⟩ := List.mem_map.1 hp
      have := (hQ i (by have := List.mem_range.1 hi; omega)).2.2
      unfold maxLen at this
      exact this
theorem ints_of_open {H : Type} {enc : TypeId × Value → H} {w : World} {fuel : Nat} {cs : List Value} {x : DataW H × List MemPlace} (h : DataW.trod enc Try.prog w 0 (fun _ => true) true fuel 23 cs = some x) :
    ∃ (A : Option Addr) (n c : Nat) (zs : List Int), cs = [.slice A n c] ∧ Ints w w.heap.size A n zs ∧ n ≤ 9223372036854775807 ∧ n ≤ c := by
  rcases open_ints Try.underlying23 Try.underlying3 (by kernel_rfl) h with ⟨rfl, _⟩ | ⟨a, len, cap, zs, rfl, _, hl, hm, hz, _, hx, _⟩
  · exact ⟨none, 0, 0, [], rfl, ⟨rfl, fun h => absurd h (by omega)⟩, by omega, Nat.le_refl _⟩
  · have hz' : zs.length = cap := hz
    have hml : cap ≤ 9223372036854775807 := by unfold maxLen at hm; exact hm
    refine ⟨some a, len, cap, zs.take len, rfl, ⟨by simp; omega, fun hn => ?_⟩, by omega, hl⟩
    obtain ⟨b, off, spot⟩ := a
    obtain ⟨hsp, hb⟩ := spot_none (hx 0 (by omega))
    have hsp' : spot = none := hsp
    subst hsp'
    refine ⟨b, off, rfl, hb, fun k hk => ?_⟩
    have h1 := hx k (by omega)
    rw [add_off] at h1
    rw [h1]
    simp [List.getD, hk]
theorem bools_of_open {H : Type} {enc : TypeId × Value → H} {w : World} {fuel : Nat} {cs : List Value} {x : DataW H × List MemPlace} (h : DataW.trod enc Try.prog w 0 (fun _ => true) true fuel 72 cs = some x) :
    ∃ (A : Option Addr) (n c : Nat) (zs : List Bool), cs = [.slice A n c] ∧ Bools w w.heap.size A n zs ∧ n ≤ 9223372036854775807 ∧ n ≤ c := by
  rcases open_bools Try.underlying72 Try.underlying4 (by kernel_rfl) h with ⟨rfl, _⟩ | ⟨a, len, cap, B, rfl, _, hl, hm, _, hx⟩
  · exact ⟨none, 0, 0, [], rfl, ⟨rfl, fun h => absurd h (by omega)⟩, by omega, Nat.le_refl _⟩
  · have hml : cap ≤ 9223372036854775807 := by unfold maxLen at hm; exact hm
    refine ⟨some a, len, cap, (List.range len).map B, rfl, ⟨by simp, fun hn => ?_⟩, by omega, hl⟩
    obtain ⟨b, off, spot⟩ := a
    obtain ⟨hsp, hb⟩ := spot_none (hx 0 (by omega))
    have hsp' : spot = none := hsp
    subst hsp'
    refine ⟨b, off, rfl, hb, fun k hk => ?_⟩
    have h1 := hx k (by omega)
    rw [add_off] at h1
    rw [h1]
    simp [List.getD, hk]
end Go.Proofs.Ytiglkajafdecgaa
