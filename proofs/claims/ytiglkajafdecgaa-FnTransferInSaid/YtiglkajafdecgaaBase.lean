/-
  Small words for worlds and slices: what reads as a list, what stays as it was.
-/
import Derived.Test.YtiglkajafdecgaaRows
import Derived.WalkKit
import Derived.WalkSpells
import Derived.WalkLawsBesides
import Derived.Lib.Hide
import Derived.Maps.AppendAt
import Derived.Deep.Draws
namespace Go.Proofs.Ytiglkajafdecgaa
set_option linter.unusedVariables false
open Go.RowKit

namespace Fp
/-- is a number in a range? -/
def inr (n lo hi : Int) : Bool := decide (lo ≤ n) && decide (n ≤ hi)
theorem inr_iff (n lo hi : Int) : inr n lo hi = true ↔ (lo ≤ n ∧ n ≤ hi) := by simp [inr]
theorem inr_no (n lo hi : Int) (h : inr n lo hi = false) : n < lo ∨ hi < n := by
  simp only [inr, Bool.and_eq_false_iff, decide_eq_false_iff_not] at h
  omega
end Fp

theorem ret_int {k : IntKind} {a b : Int} (h : a = b) : Ending.returned (.int k a) = .returned (.int k b) := by rw [h]
theorem ret_bool {a b : Bool} (h : a = b) : Ending.returned (.bool a) = .returned (.bool b) := by rw [h]

/-- all that lay below the heap's size when a call began reads as before -/
theorem bcell {W w1 : World} (hb : Below W.heap.size W w1) : (∀ b o, b < W.heap.size → w1.cell? ⟨b, o, none⟩ = W.cell? ⟨b, o, none⟩) ∧ (∀ b o, b < W.heap.size → w1.frozen? ⟨b, o, none⟩ = W.frozen? ⟨b, o, none⟩) :=
  ⟨fun b o h => hb.cell (p := ⟨b, o, none⟩) h, fun b o h => hb.frozen (p := ⟨b, o, none⟩) h⟩

/-- cells that hold known values and may be written -/
def Bx (w : World) : List (Addr × Value) → Prop
  | [] => True
  | (a, v) :: r => (w.cell? a = some v ∧ w.frozen? a = false) ∧ Bx w r
theorem lt_of_cell {w : World} {a : Addr} {v : Value} (h : w.cell? a = some v) : a.block < w.heap.size := by
  rcases Nat.lt_or_ge a.block w.heap.size with hlt | hge
  · exact hlt
  · simp [World.cell?, Array.getElem?_eq_none hge] at h
theorem Bx.later {w w' : World} (hb : Below w.heap.size w w') : ∀ {L : List (Addr × Value)}, Bx w L → Bx w' L
  | [], _ => trivial
  | (_, _) :: _, ⟨⟨h1, h2⟩, h3⟩ => ⟨⟨(hb.cell (lt_of_cell h1)).trans h1, (hb.frozen (lt_of_cell h1)).trans h2⟩, Bx.later hb h3⟩
theorem Bx.alloc {w : World} (o : Obj) : ∀ {L : List (Addr × Value)}, Bx w L → Bx (w.alloc o) L
  | [], _ => trivial
  | (_, _) :: _, ⟨⟨h1, h2⟩, h3⟩ => ⟨⟨(World.cell?_alloc_lt w o _ (lt_of_cell h1)).trans h1, (((Below.refl w.heap.size w).alloc (Nat.le_refl _) o).frozen (lt_of_cell h1)).trans h2⟩, Bx.alloc o h3⟩

/-- a slice of ints that reads as zs, below block B -/
def Ints (w : World) (B : Nat) (A : Option Addr) (n : Nat) (zs : List Int) : Prop :=
  zs.length = n ∧ (0 < n → ∃ g o, A = some ⟨g, o, none⟩ ∧ g < B ∧ ∀ k, k < n → w.cell? ⟨g, o + k, none⟩ = some (.int .i64 (zs.getD k 0)))
/-- a slice of bools that reads as zs, below block B -/
def Bools (w : World) (B : Nat) (A : Option Addr) (n : Nat) (zs : List Bool) : Prop :=
  zs.length = n ∧ (0 < n → ∃ g o, A = some ⟨g, o, none⟩ ∧ g < B ∧ ∀ k, k < n → w.cell? ⟨g, o + k, none⟩ = some (.bool (zs.getD k false)))
/-- the cells of piles -/
def pcells (ps : List (ByteArray × Int)) : List Value := ps.flatMap fun p => [.string p.1, .int .i64 p.2]
/-- a slice of piles of whatever texts that reads as ps, below block B -/
def PilesR (w : World) (B : Nat) (A : Option Addr) (n : Nat) (ps : List (ByteArray × Int)) : Prop :=
  ps.length = n ∧ (0 < n → ∃ g o, A = some ⟨g, o, none⟩ ∧ g < B ∧ ∀ k, k < n → w.cell? ⟨g, o + k * 2, none⟩ = some (.string (ps.getD k default).1) ∧ w.cell? ⟨g, o + k * 2 + 1, none⟩ = some (.int .i64 (ps.getD k default).2))
/-- a slice of piles that reads as ps, below block B; no text is long -/
def Piles (w : World) (B : Nat) (A : Option Addr) (n : Nat) (ps : List (ByteArray × Int)) : Prop :=
  (ps.length = n ∧ ∀ p ∈ ps, p.1.size ≤ 1048576) ∧ (0 < n → ∃ g o, A = some ⟨g, o, none⟩ ∧ g < B ∧ ∀ k, k < n → w.cell? ⟨g, o + k * 2, none⟩ = some (.string (ps.getD k default).1) ∧ w.cell? ⟨g, o + k * 2 + 1, none⟩ = some (.int .i64 (ps.getD k default).2))

section
variable {w w' : World} {B B' n : Nat} {A : Option Addr}
theorem Ints.nil {w : World} {B : Nat} (A : Option Addr) : Ints w B A 0 [] := ⟨rfl, fun h => absurd h (by omega)⟩
theorem Ints.below {zs : List Int} (h : Ints w B A n zs) (hb : Below B w w') : Ints w' B A n zs := ⟨h.1, fun hn => by
  obtain ⟨g, o, e, hl, hc⟩ := h.2 hn
  exact ⟨g, o, e, hl, fun k hk => (hb.cell (p := ⟨g, o + k, none⟩) hl).trans (hc k hk)⟩⟩
theorem Ints.mono {zs : List Int} (h : Ints w B A n zs) (hB : B ≤ B') : Ints w B' A n zs := ⟨h.1, fun hn => by
  obtain ⟨g, o, e, hl, hc⟩ := h.2 hn
  exact ⟨g, o, e, by omega, hc⟩⟩
theorem Ints.at {zs : List Int} (h : Ints w B A n zs) {k : Nat} (hk : k < n) : ∃ g o z, A = some ⟨g, o, none⟩ ∧ g < B ∧ w.cell? ⟨g, o + k, none⟩ = some (.int .i64 z) ∧ Hid (zs.getD k 0 = z) := by
  obtain ⟨g, o, e, hl, hc⟩ := h.2 (by omega)
  exact ⟨g, o, _, e, hl, hc k hk, rfl⟩
theorem Ints.take {zs : List Int} (h : Ints w B A n zs) {k : Nat} (hk : k ≤ n) : Ints w B A k (zs.take k) := ⟨by rw [List.length_take, h.1]; omega, fun hn => by
  obtain ⟨g, o, e, hl, hc⟩ := h.2 (by omega)
  refine ⟨g, o, e, hl, fun j hj => ?_⟩
  rw [hc j (by omega)]
  simp [List.getD, hj]⟩
theorem Bools.below {zs : List Bool} (h : Bools w B A n zs) (hb : Below B w w') : Bools w' B A n zs := ⟨h.1, fun hn => by
  obtain ⟨g, o, e, hl, hc⟩ := h.2 hn
  exact ⟨g, o, e, hl, fun k hk => (hb.cell (p := ⟨g, o + k, none⟩) hl).trans (hc k hk)⟩⟩
theorem Bools.mono {zs : List Bool} (h : Bools w B A n zs) (hB : B ≤ B') : Bools w B' A n zs := ⟨h.1, fun hn => by
  obtain ⟨g, o, e, hl, hc⟩ := h.2 hn
  exact ⟨g, o, e, by omega, hc⟩⟩
theorem Bools.at {zs : List Bool} (h : Bools w B A n zs) {k : Nat} (hk : k < n) : ∃ g o z, A = some ⟨g, o, none⟩ ∧ g < B ∧ w.cell? ⟨g, o + k, none⟩ = some (.bool z) ∧ Hid (zs.getD k false = z) := by
  obtain ⟨g, o, e, hl, hc⟩ := h.2 (by omega)
  exact ⟨g, o, _, e, hl, hc k hk, rfl⟩
theorem Piles.below {ps : List (ByteArray × Int)} (h : Piles w B A n ps) (hb : Below B w w') : Piles w' B A n ps := ⟨h.1, fun hn => by
  obtain ⟨g, o, e, hl, hc⟩ := h.2 hn
  exact ⟨g, o, e, hl, fun k hk => ⟨(hb.cell (p := ⟨g, o + k * 2, none⟩) hl).trans (hc k hk).1, (hb.cell (p := ⟨g, o + k * 2 + 1, none⟩) hl).trans (hc k hk).2⟩⟩⟩
theorem Piles.mono {ps : List (ByteArray × Int)} (h : Piles w B A n ps) (hB : B ≤ B') : Piles w B' A n ps := ⟨h.1, fun hn => by
  obtain ⟨g, o, e, hl, hc⟩ := h.2 hn
  exact ⟨g, o, e, by omega, hc⟩⟩
theorem Piles.at {ps : List (ByteArray × Int)} (h : Piles w B A n ps) {k : Nat} (hk : k < n) : ∃ g o s m, A = some ⟨g, o, none⟩ ∧ g < B ∧ w.cell? ⟨g, o + k * 2, none⟩ = some (.string s) ∧ w.cell? ⟨g, o + k * 2 + 1, none⟩ = some (.int .i64 m) ∧ s.size ≤ 1048576 ∧ Hid (ps.getD k default = (s, m)) := by
  obtain ⟨g, o, e, hl, hc⟩ := h.2 (by omega)
  refine ⟨g, o, _, _, e, hl, (hc k hk).1, (hc k hk).2, h.1.2 _ ?_, rfl⟩
  have hk' : k < ps.length := by have := h.1.1; omega
  simp [List.getD, hk']
end

/-- v is a slice of n ints of the call's own, from block base on -/
def Own (w : World) (base : Nat) (v : Value) (n : Nat) (zs : List Int) : Prop := w.ownsRow base 3 1 v n (zs.map (Value.int .i64))
theorem Own.row {w : World} {base : Nat} {v : Value} {n : Nat} {zs : List Int} (h : Own w base v n zs) : w.ownsRow base 3 1 v n (zs.map (Value.int .i64)) := h
theorem own_slice {w : World} {base : Nat} {e : TypeId} {sz : Nat} {v : Value} {n : Nat} {xs : List Value} (h : w.ownsRow base e sz v n xs) : ∃ A c, v = .slice A n c ∧ n ≤ c := by
  rcases h.2 with ⟨rfl, rfl⟩ | ⟨g, cap, cur, rfl, _, _, hc, _⟩
  · exact ⟨none, 0, rfl, Nat.le_refl _⟩
  · exact ⟨_, cap, rfl, hc⟩
theorem Own.len {w : World} {base : Nat} {v : Value} {n : Nat} {zs : List Int} (h : Own w base v n zs) : zs.length = n := by have := h.1; simpa using this
theorem add_zero_off (g k : Nat) : (⟨g, 0, none⟩ : Addr).add k = ⟨g, k, none⟩ := by
  unfold Addr.add
  split
  · next h => subst h; rfl
  · simp
theorem Own.ints {w : World} {base : Nat} {A : Option Addr} {n c : Nat} {zs : List Int} (h : Own w base (.slice A n c) n zs) : Ints w w.heap.size A n zs := by
  refine ⟨h.len, fun hn => ?_⟩
  rcases h.2 with ⟨hv, h0⟩ | ⟨g, cap, cur, hv, _, hh, _⟩
  · omega
  · have hlt := (h.lt g (by rw [hv]; rfl)).2
    injection hv with hA hn' hc'
    subst hA
    refine ⟨g, 0, rfl, hlt, fun k hk => ?_⟩
    have := h.cells (g := g) rfl k (.int .i64 (zs.getD k 0)) (by
      have hk' : k < zs.length := by rw [h.len]; exact hk
      simp [List.getD, hk'])
    rw [add_zero_off] at this
    simpa using this
/-- the same, where it lies at or above the base -/
theorem Own.nil (w : World) (base : Nat) : Own w base (.slice none 0 0) 0 [] := World.ownsRow_nil w base _ _
theorem own_base {w : World} {base base' : Nat} {e : TypeId} {sz : Nat} {v : Value} {n : Nat} {xs : List Value} (h : w.ownsRow base e sz v n xs) (hb : base' ≤ base) : w.ownsRow base' e sz v n xs := by
  refine ⟨h.1, ?_⟩
  rcases h.2 with h | ⟨g, cap, cur, h1, h2, h3⟩
  · exact .inl h
  · exact .inr ⟨g, cap, cur, h1, by omega, h3⟩
theorem own_keep {w w' : World} {base : Nat} {e : TypeId} {sz : Nat} {v : Value} {n : Nat} {xs : List Value} (h : w.ownsRow base e sz v n xs) (hb : Below w.heap.size w w') : w'.ownsRow base e sz v n xs :=
  h.kept (row := none) ⟨hb.os, hb.tape, hb.output, hb.size, fun k hk _ => hb.block k hk⟩ (by
    rcases h.2 with ⟨rfl, _⟩ | ⟨g, cap, cur, rfl, _⟩
    · exact .inl rfl
    · exact .inr (by simp [Value.ownBlock]))
theorem Own.base {w : World} {base base' : Nat} {v : Value} {n : Nat} {zs : List Int} (h : Own w base v n zs) (hb : base' ≤ base) : Own w base' v n zs := own_base h hb
theorem Own.keep {w w' : World} {base : Nat} {v : Value} {n : Nat} {zs : List Int} (h : Own w base v n zs) (hb : Below w.heap.size w w') : Own w' base v n zs := own_keep h hb
theorem PilesR.below {w w' : World} {B n : Nat} {A : Option Addr} {ps : List (ByteArray × Int)} (h : PilesR w B A n ps) (hb : Below B w w') : PilesR w' B A n ps := ⟨h.1, fun hn => by
  obtain ⟨g, o, e, hl, hc⟩ := h.2 hn
  exact ⟨g, o, e, hl, fun k hk => ⟨(hb.cell (p := ⟨g, o + k * 2, none⟩) hl).trans (hc k hk).1, (hb.cell (p := ⟨g, o + k * 2 + 1, none⟩) hl).trans (hc k hk).2⟩⟩⟩
theorem PilesR.at {w : World} {B n : Nat} {A : Option Addr} {ps : List (ByteArray × Int)} (h : PilesR w B A n ps) {k : Nat} (hk : k < n) : ∃ g o s m, A = some ⟨g, o, none⟩ ∧ g < B ∧ w.cell? ⟨g, o + k * 2, none⟩ = some (.string s) ∧ w.cell? ⟨g, o + k * 2 + 1, none⟩ = some (.int .i64 m) ∧ Hid (ps.getD k default = (s, m)) := by
  obtain ⟨g, o, e, hl, hc⟩ := h.2 (by omega)
  exact ⟨g, o, _, _, e, hl, (hc k hk).1, (hc k hk).2, rfl⟩
theorem Piles.raw {w : World} {B n : Nat} {A : Option Addr} {ps : List (ByteArray × Int)} (h : Piles w B A n ps) : PilesR w B A n ps := ⟨h.1.1, h.2⟩
theorem PilesR.fine {w : World} {B n : Nat} {A : Option Addr} {ps : List (ByteArray × Int)} (h : PilesR w B A n ps) (hs : ∀ p ∈ ps, p.1.size ≤ 1048576) : Piles w B A n ps := ⟨⟨h.1, hs⟩, h.2⟩
theorem pcells_len (ps : List (ByteArray × Int)) : (pcells ps).length = ps.length * 2 := by
  induction ps with
  | nil => rfl
  | cons p r ih => simp only [pcells, List.flatMap_cons, List.length_append, List.length_cons, List.length_nil] at *; omega
theorem pcells_at : ∀ (ps : List (ByteArray × Int)) (k : Nat), k < ps.length → (pcells ps)[k * 2]? = some (.string (ps.getD k default).1) ∧ (pcells ps)[k * 2 + 1]? = some (.int .i64 (ps.getD k default).2)
  | [], k, h => absurd h (by simp)
  | p :: r, 0, _ => ⟨rfl, rfl⟩
  | p :: r, k + 1, h => by
    have ih := pcells_at r k (by simpa using h)
    have e1 : (k + 1) * 2 = k * 2 + 1 + 1 := by omega
    rw [e1]
    exact ih
theorem pcells_set : ∀ (ps : List (ByteArray × Int)) (k : Nat) (s : ByteArray) (m : Int), k < ps.length → ((pcells ps).set (k * 2) (.string s)).set (k * 2 + 1) (.int .i64 m) = pcells (ps.set k (s, m))
  | [], k, _, _, h => absurd h (by simp)
  | p :: r, 0, s, m, _ => rfl
  | p :: r, k + 1, s, m, h => by
    have ih := pcells_set r k s m (by simpa using h)
    have e1 : (k + 1) * 2 = k * 2 + 1 + 1 := by omega
    rw [e1]
    show _ = Value.string p.1 :: Value.int .i64 p.2 :: pcells (r.set k (s, m))
    rw [← ih]
    rfl
/-- v is a slice of n piles of the call's own -/
def OwnP (w : World) (base : Nat) (v : Value) (n : Nat) (ps : List (ByteArray × Int)) : Prop := w.ownsRow base 57 2 v n (pcells ps)
theorem OwnP.row {w : World} {base : Nat} {v : Value} {n : Nat} {ps : List (ByteArray × Int)} (h : OwnP w base v n ps) : w.ownsRow base 57 2 v n (pcells ps) := h
theorem OwnP.len {w : World} {base : Nat} {v : Value} {n : Nat} {ps : List (ByteArray × Int)} (h : OwnP w base v n ps) : ps.length = n := by
  have := h.1
  rw [pcells_len] at this
  omega
theorem OwnP.base {w : World} {base base' : Nat} {v : Value} {n : Nat} {ps : List (ByteArray × Int)} (h : OwnP w base v n ps) (hb : base' ≤ base) : OwnP w base' v n ps := own_base h hb
theorem OwnP.keep {w w' : World} {base : Nat} {v : Value} {n : Nat} {ps : List (ByteArray × Int)} (h : OwnP w base v n ps) (hb : Below w.heap.size w w') : OwnP w' base v n ps := own_keep h hb
theorem OwnP.piles {w : World} {base : Nat} {A : Option Addr} {n c : Nat} {ps : List (ByteArray × Int)} (h : OwnP w base (.slice A n c) n ps) : PilesR w w.heap.size A n ps := by
  refine ⟨h.len, fun hn => ?_⟩
  rcases h.2 with ⟨hv, h0⟩ | ⟨g, cap, cur, hv, _, hh, _⟩
  · omega
  · have hlt := (h.lt g (by rw [hv]; rfl)).2
    injection hv with hA hn' hc'
    subst hA
    refine ⟨g, 0, rfl, hlt, fun k hk => ?_⟩
    have hk' : k < ps.length := by rw [h.len]; exact hk
    have h1 := h.cells (g := g) rfl (k * 2) _ (pcells_at ps k hk').1
    have h2 := h.cells (g := g) rfl (k * 2 + 1) _ (pcells_at ps k hk').2
    rw [add_zero_off] at h1 h2
    simpa using ⟨h1, h2⟩
theorem pcells_made (e : ByteArray) (n : Nat) : (madeCells #[.string e, .int .i64 0] (n * 2)).toList = pcells (List.replicate n (e, 0)) := by
  apply List.ext_getElem?
  intro j
  have hl := pcells_len (List.replicate n (e, (0 : Int)))
  rw [List.length_replicate] at hl
  by_cases hj : j < n * 2
  · have hm : (madeCells #[Value.string e, .int .i64 0] (n * 2)).toList[j]? = some ((#[Value.string e, .int .i64 0] : Array Value)[j % 2]!) := by
      simp [madeCells, hj]
    rw [hm]
    have hk : j / 2 < (List.replicate n (e, (0 : Int))).length := by rw [List.length_replicate]; omega
    have ⟨h1, h2⟩ := pcells_at _ (j / 2) hk
    have hd : (List.replicate n (e, (0 : Int))).getD (j / 2) default = (e, 0) := by
      rw [List.length_replicate] at hk
      simp [List.getD, hk]
    rw [hd] at h1 h2
    rcases (show j % 2 = 0 ∨ j % 2 = 1 by omega) with h | h
    · have : j = j / 2 * 2 := by omega
      rw [h]
      rw [← this] at h1
      rw [h1]
      rfl
    · have : j = j / 2 * 2 + 1 := by omega
      rw [h]
      rw [← this] at h2
      rw [h2]
      rfl
  · rw [List.getElem?_eq_none (by simp [size_madeCells]; omega), List.getElem?_eq_none (by omega)]
end Go.Proofs.Ytiglkajafdecgaa
