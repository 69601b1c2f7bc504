/-
  From what a law's argument reads as to what its walk asks: a slice of bytes.
-/
import Derived.Test.YtiglkajafdecgaaDraw
import Derived.ProofKit
import Derived.OpenShut
import Derived.ShutString
import Derived.ChangeOld
namespace Go.Proofs.Ytiglkajafdecgaa
set_option linter.unusedVariables false
open Go.ChangeShapes Go.WideShapes Go.ChangeAt Go.RowKit

/-- a slice of bytes that came in -/
theorem bytes_of_open {w : World} {x : Addr} {len cap : Nat} {zs : List Int} (hl : len ≤ cap) (hm : cap ≤ maxLen) (hz : zs.length = cap) (hcell : ∀ i, i < zs.length → w.cell? (x.add i) = some (.int .u8 (zs.getD i 0)))
    (hwz : ∀ n ∈ zs, (Lit.int .u8 n).wf = true) : Bytes w w.heap.size (some x) len := by
  intro hn
  obtain ⟨b, off, spot⟩ := x
  have h0 := hcell 0 (by omega)
  have hspot : spot = none := by simpa [Addr.add] using World.cell?_spot h0
  subst hspot
  have hadd : ∀ k, (⟨b, off, none⟩ : Addr).add k = ⟨b, off + k, none⟩ := fun k => by
    unfold Addr.add
    split
    · next h => subst h; rfl
    · rfl
  refine ⟨b, off, rfl, ?_, fun k hk => ?_⟩
  · have := lt_of_cell h0
    rw [hadd] at this
    exact this
  · have h1 := hcell k (by omega)
    rw [hadd] at h1
    have hk' : k < zs.length := by omega
    have hmem : zs.getD k 0 ∈ zs := by
      have : zs.getD k 0 = zs[k] := by simp [List.getD, hk']
      rw [this]; exact List.getElem_mem hk'
    have hb := bounds_u8 (hwz _ hmem)
    obtain ⟨z, hz⟩ := Int.eq_ofNat_of_zero_le hb.1
    exact ⟨z, by omega, by rw [h1, hz]⟩
end Go.Proofs.Ytiglkajafdecgaa
