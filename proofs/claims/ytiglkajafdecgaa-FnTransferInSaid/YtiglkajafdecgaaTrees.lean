/-
  Rows of the call's own that hold rows of the call's own: each in a block of its own.
-/
import Derived.Test.YtiglkajafdecgaaSmall
import Derived.Maps.AppendAt
namespace Go.Proofs.Ytiglkajafdecgaa
set_option linter.unusedVariables false
open Go.RowKit

/-- v is a row of n elements of the call's own, not nil -/
def Sub (w : World) (base : Nat) (e : TypeId) (sz : Nat) (v : Value) (n : Nat) (xs : List Value) : Prop := w.ownsRow base e sz v n xs ∧ ∃ g c, v = .slice (some ⟨g, 0, none⟩) n c
theorem Sub.block {w : World} {base : Nat} {e : TypeId} {sz : Nat} {v : Value} {n : Nat} {xs : List Value} (h : Sub w base e sz v n xs) : ∃ g, v.ownBlock = some g ∧ base ≤ g ∧ g < w.heap.size := by
  obtain ⟨h1, g, c, rfl⟩ := h
  exact ⟨g, rfl, h1.lt g rfl⟩
theorem Sub.keep {w w' : World} {base : Nat} {e : TypeId} {sz : Nat} {v : Value} {n : Nat} {xs : List Value} (h : Sub w base e sz v n xs) (hb : Below w.heap.size w w') : Sub w' base e sz v n xs := ⟨own_keep h.1 hb, h.2⟩
theorem Sub.base {w : World} {base base' : Nat} {e : TypeId} {sz : Nat} {v : Value} {n : Nat} {xs : List Value} (h : Sub w base e sz v n xs) (hb : base' ≤ base) : Sub w base' e sz v n xs := ⟨own_base h.1 hb, h.2⟩
theorem Sub.far {w w' : World} {base : Nat} {e : TypeId} {sz : Nat} {v : Value} {n : Nat} {xs : List Value} {r : Option Nat} (h : Sub w base e sz v n xs) (hg : w.grownBy w' r) (hr : r ≠ v.ownBlock) : Sub w' base e sz v n xs := by
  refine ⟨h.1.kept hg ?_, h.2⟩
  obtain ⟨_, g, c, rfl⟩ := h
  exact .inr (fun e => hr e.symm)

/-- rows of the call's own, each in its own block, none in the block 'own' -/
structure Subs (w : World) (base : Nat) (e : TypeId) (sz : Nat) (own : Option Nat) (vs : List Value) (subs : List (Nat × List Value)) : Prop where
  len : vs.length = subs.length
  sub : ∀ i, i < subs.length → Sub w base e sz (vs.getD i undef) (subs.getD i default).1 (subs.getD i default).2
  own : ∀ i, i < subs.length → own ≠ (vs.getD i undef).ownBlock
  apart : ∀ i j, i < subs.length → j < subs.length → i ≠ j → (vs.getD i undef).ownBlock ≠ (vs.getD j undef).ownBlock
section
variable {w w' : World} {bs : Nat} {e : TypeId} {sz : Nat} {own : Option Nat} {vs : List Value} {subs : List (Nat × List Value)}
theorem Subs.nil (w : World) (bs : Nat) (e : TypeId) (sz : Nat) (own : Option Nat) : Subs w bs e sz own [] [] :=
  ⟨rfl, fun i h => absurd h (by simp), fun i h => absurd h (by simp), fun i j h => absurd h (by simp)⟩
theorem Subs.keep (h : Subs w bs e sz own vs subs) (hb : Below w.heap.size w w') : Subs w' bs e sz own vs subs := ⟨h.len, fun i hi => (h.sub i hi).keep hb, h.own, h.apart⟩
theorem Subs.base {bs' : Nat} (h : Subs w bs e sz own vs subs) (hb : bs' ≤ bs) : Subs w bs' e sz own vs subs := ⟨h.len, fun i hi => (h.sub i hi).base hb, h.own, h.apart⟩
theorem Subs.far {r : Option Nat} (h : Subs w bs e sz own vs subs) (hg : w.grownBy w' r) (hr : ∀ i, i < subs.length → r ≠ (vs.getD i undef).ownBlock) : Subs w' bs e sz own vs subs := ⟨h.len, fun i hi => (h.sub i hi).far hg (hr i hi), h.own, h.apart⟩
/-- the outer row has been written, or lies anew -/
theorem Subs.grown (h : Subs w bs e sz own vs subs) (hg : w.grownBy w' own) {own' : Option Nat} (ho : own' = own ∨ ∀ g, own' = some g → w.heap.size ≤ g) : Subs w' bs e sz own' vs subs :=
  ⟨h.len, fun i hi => (h.sub i hi).far hg (h.own i hi), fun i hi => by
    rcases ho with rfl | ho
    · exact h.own i hi
    · obtain ⟨g, h1, _, h2⟩ := (h.sub i hi).block
      rw [h1]
      intro e
      have := ho g e
      omega, h.apart⟩
/-- one row more -/
theorem Subs.snoc (h : Subs w bs e sz own vs subs) {v : Value} {n : Nat} {xs : List Value} (hs : Sub w bs e sz v n xs) (ho : own ≠ v.ownBlock) (ha : ∀ i, i < subs.length → (vs.getD i undef).ownBlock ≠ v.ownBlock) :
    Subs w bs e sz own (vs ++ [v]) (subs ++ [(n, xs)]) := by
  have hv : ∀ i, i < subs.length → (vs ++ [v]).getD i undef = vs.getD i undef := fun i hi => by simp [List.getD, List.getElem?_append_left (show i < vs.length by rw [h.len]; exact hi)]
  have hv2 : (vs ++ [v]).getD subs.length undef = v := by rw [← h.len]; simp [List.getD]
  have hs1 : ∀ i, i < subs.length → (subs ++ [(n, xs)]).getD i default = subs.getD i default := fun i hi => by simp [List.getD, List.getElem?_append_left hi]
  have hs2 : (subs ++ [(n, xs)]).getD subs.length default = (n, xs) := by simp [List.getD]
  have hlen : (subs ++ [(n, xs)]).length = subs.length + 1 := by simp
  refine ⟨by simp [h.len], fun i hi => ?_, fun i hi => ?_, fun i j hi hj hij => ?_⟩
  · rw [hlen] at hi
    by_cases hi' : i < subs.length
    · rw [hv i hi', hs1 i hi']; exact h.sub i hi'
    · obtain rfl : i = subs.length := by omega
      rw [hv2, hs2]; exact hs
  · rw [hlen] at hi
    by_cases hi' : i < subs.length
    · rw [hv i hi']; exact h.own i hi'
    · obtain rfl : i = subs.length := by omega
      rw [hv2]; exact ho
  · rw [hlen] at hi hj
    by_cases hi' : i < subs.length
    · rw [hv i hi']
      by_cases hj' : j < subs.length
      · rw [hv j hj']; exact h.apart i j hi' hj' hij
      · obtain rfl : j = subs.length := by omega
        rw [hv2]; exact ha i hi'
    · obtain rfl : i = subs.length := by omega
      rw [hv2, hv j (by omega)]
      exact (ha j (by omega)).symm
/-- a row that is new lies apart from all that were there -/
theorem Subs.fresh (h : Subs w bs e sz own vs subs) {v : Value} {g : Nat} (hv : v.ownBlock = some g) (hg : w.heap.size ≤ g) : ∀ i, i < subs.length → (vs.getD i undef).ownBlock ≠ v.ownBlock := fun i hi => by
  obtain ⟨x, h1, _, h2⟩ := (h.sub i hi).block
  rw [h1, hv]
  intro e
  injection e with e
  omega
/-- one row has been written -/
theorem Subs.set (h : Subs w bs e sz own vs subs) {i : Nat} (hi : i < subs.length) {xs : List Value} (hg : w.grownBy w' (vs.getD i undef).ownBlock) (hs : Sub w' bs e sz (vs.getD i undef) (subs.getD i default).1 xs) :
    Subs w' bs e sz own vs (subs.set i ((subs.getD i default).1, xs)) := by
  have h1 : ∀ j, j < subs.length → j ≠ i → (subs.set i ((subs.getD i default).1, xs)).getD j default = subs.getD j default := fun j hj hne => by simp [List.getD, List.getElem?_set_ne (Ne.symm hne)]
  have h2 : (subs.set i ((subs.getD i default).1, xs)).getD i default = ((subs.getD i default).1, xs) := by simp [List.getD, hi]
  refine ⟨by rw [List.length_set]; exact h.len, fun j hj => ?_, fun j hj => h.own j (by rwa [List.length_set] at hj), fun j k hj hk hjk => h.apart j k (by rwa [List.length_set] at hj) (by rwa [List.length_set] at hk) hjk⟩
  rw [List.length_set] at hj
  by_cases hji : j = i
  · subst hji; rw [h2]; exact hs
  · rw [h1 j hj hji]
    exact (h.sub j hj).far hg (h.apart i j hi hj (Ne.symm hji))
end
end Go.Proofs.Ytiglkajafdecgaa
