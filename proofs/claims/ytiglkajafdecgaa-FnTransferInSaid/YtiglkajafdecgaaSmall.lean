/-
  Small functions that many others call: the reference's l6In. Calls that write nothing, inside a statement whose order is open.
-/
import Derived.Test.YtiglkajafdecgaaBase
import Derived.Deep.QuietTactic
import Derived.BigQuiet
namespace Go.Proofs.Ytiglkajafdecgaa
set_option linter.unusedVariables false
open Go.RowKit

/-- only block g, and what is new, has turned -/
theorem only_drewN {a w : World} {row : Option Nat} (h : a.grownBy w row) (n : Nat) : a.grownBy (w.drewN n) row := ⟨h.os, h.tape, h.output, h.size, h.block⟩
theorem only_setCell {a w : World} {g : Nat} (h : a.grownBy w (some g)) {p : Addr} (hp : p.block = g ∨ a.heap.size ≤ p.block) (u : Value) : a.grownBy (w.setCell p u) (some g) :=
  ⟨h.os, h.tape, h.output, by simpa [World.setCell] using h.size, fun i hi hne => (Below.heap_setCell w p u i (by
    rintro rfl
    rcases hp with hp | hp
    · exact hne (by rw [hp])
    · omega)).trans (h.block i hi hne)⟩
theorem only_below {a w : World} {g : Nat} (h : a.grownBy w (some g)) : Below g a w ∨ a.heap.size ≤ g := by
  rcases Nat.lt_or_ge g a.heap.size with hlt | hge
  · exact .inl ⟨h.os, h.tape, h.output, h.size, fun i hi => h.block i (by omega) (by simp; omega)⟩
  · exact .inr hge
theorem only_trans {a b c : World} {g : Nat} (h : a.grownBy b (some g)) (k : b.grownBy c (some g)) : a.grownBy c (some g) :=
  ⟨k.os.trans h.os, k.tape.trans h.tape, k.output.trans h.output, Nat.le_trans h.size k.size, fun i hi hne => (k.block i (Nat.lt_of_lt_of_le hi h.size) hne).trans (h.block i hi hne)⟩
theorem only_of_below {a w : World} (h : Below a.heap.size a w) (row : Option Nat) : a.grownBy w row := ⟨h.os, h.tape, h.output, h.size, fun i hi _ => h.block i hi⟩
theorem only_alloc {a w : World} {row : Option Nat} (h : a.grownBy w row) (o : Obj) : a.grownBy (w.alloc o) row :=
  ⟨h.os, h.tape, h.output, Nat.le_trans h.size (by simp), fun i hi hne => (Below.heap_alloc w o i (Nat.lt_of_lt_of_le hi h.size)).trans (h.block i hi hne)⟩
theorem below_only {a w : World} {B g : Nat} (h : a.grownBy w (some g)) (hg : B ≤ g) (hB : B ≤ a.heap.size) : Below B a w :=
  ⟨h.os, h.tape, h.output, h.size, fun i hi => h.block i (by omega) (by simp; omega)⟩
theorem Bx.only {w w' : World} {g : Nat} (hb : w.grownBy w' (some g)) : ∀ {L : List (Addr × Value)}, (∀ x ∈ L, x.1.block ≠ g) → Bx w L → Bx w' L
  | [], _, _ => trivial
  | (a, _) :: r, hn, ⟨⟨h1, h2⟩, h3⟩ => by
    have hne : w'.heap[a.block]? = w.heap[a.block]? := hb.block _ (lt_of_cell h1) (by have := hn _ (List.mem_cons_self ..); simpa using this)
    exact ⟨⟨(World.cell?_of_block hne).trans h1, (World.frozen?_of_block hne).trans h2⟩, Bx.only hb (fun x hx => hn x (List.mem_cons_of_mem _ hx)) h3⟩
/-- behind a call that writes block g alone: every other cell that lay there reads as before -/
theorem gcell {W w1 : World} {g : Nat} (hb : W.grownBy w1 (some g)) : (∀ b o, b < W.heap.size → ¬ b = g → w1.cell? ⟨b, o, none⟩ = W.cell? ⟨b, o, none⟩) ∧ (∀ b o, b < W.heap.size → ¬ b = g → w1.frozen? ⟨b, o, none⟩ = W.frozen? ⟨b, o, none⟩) :=
  ⟨fun b o h hn => World.cell?_of_block (hb.block b h (by simpa using hn)), fun b o h hn => World.frozen?_of_block (hb.block b h (by simpa using hn))⟩
theorem only_drew {a w : World} {row : Option Nat} (h : a.grownBy w row) : a.grownBy w.drew row := ⟨h.os, h.tape, h.output, h.size, h.block⟩
theorem only_keep {a w w' : World} {g : Nat} (h : a.grownBy w (some g)) (hb : Below w.heap.size w w') : a.grownBy w' (some g) := only_trans h (only_of_below hb _)
/-- w' is w behind some draws -/
def Drawn (w w' : World) : Prop := ∃ k, w' = w.drewN k
theorem Drawn.refl (w : World) : Drawn w w := ⟨0, rfl⟩
theorem Drawn.drewN {w w' : World} (h : Drawn w w') (n : Nat) : Drawn w (w'.drewN n) := by
  obtain ⟨k, rfl⟩ := h
  exact ⟨k + n, by rw [World.drewN_drewN]⟩
theorem Drawn.drew {w w' : World} (h : Drawn w w') : Drawn w w'.drew := h.drewN 1
theorem Drawn.below {w w' : World} (h : Drawn w w') (B : Nat) : Below B w w' := by
  obtain ⟨k, rfl⟩ := h
  exact below_drewN (Below.refl _ _) _
theorem Drawn.trans {a b c : World} (h : Drawn a b) (k : Drawn b c) : Drawn a c := by
  obtain ⟨n, rfl⟩ := k
  exact h.drewN n
theorem Ints.drewN {w : World} {B n : Nat} {A : Option Addr} {zs : List Int} (h : Ints w B A n zs) (k : Nat) : Ints (w.drewN k) B A n zs := h
theorem Bools.drewN {w : World} {B n : Nat} {A : Option Addr} {zs : List Bool} (h : Bools w B A n zs) (k : Nat) : Bools (w.drewN k) B A n zs := h
theorem Piles.drewN {w : World} {B n : Nat} {A : Option Addr} {zs : List (ByteArray × Int)} (h : Piles w B A n zs) (k : Nat) : Piles (w.drewN k) B A n zs := h
theorem drawn_left {P : Program} {f : FuncId} {args : Array Value} {w : World} {n : Nat} {v : Value}
    (h : Calls P f args (w.drewN n) fun e w' => e = .returned v ∧ Drawn (w.drewN n) w') : Calls P f args (w.drewN n) fun e w'' => e = .returned v ∧ ∃ m, w'' = w.drewN m :=
  h.mono fun _ _ ⟨he, hm⟩ => ⟨he, by
    obtain ⟨k, hk⟩ := hm
    exact ⟨n + k, by rw [hk, World.drewN_drewN]⟩⟩

/-- the worlds that have turned nothing of what lay in W -/
structure Calm (W : World) where
  val : World
  ok : Below W.heap.size W val
instance (W : World) : Nonempty (Calm W) := ⟨⟨W, Below.refl _ _⟩⟩
/-- a statement whose order is open, whose calls make memory but turn none, and answer the same in each such world: one walk in the order of the text -/
theorem wp_region_calm {P : Program} {id : Nat} {Q : Exit → Act → World → Prop} {a : Act} {W : World} {l : List Oper} (hm : P.follows .mixedOrders = true) (hB : Region.lexB .any l.toArray = true)
    (h : wpQuiet P l.toArray (fun w' => ∃ x : Calm W, w' = x.val) (fun a' => ∀ w', (∃ x : Calm W, w' = x.val) → Q .normal a' w') l a) : (Code.region id l.toArray true).wp P Q a W :=
  wp_region_quiet (C := fun w' => ∃ x : Calm W, w' = x.val) hm hB ⟨⟨W.drew, (Below.refl _ _).drew⟩, rfl⟩ (by simpa using h)
theorem calm_call {P : Program} {f : FuncId} {args : Array Value} {W : World} {x : Calm W} {v : Value} (h : Calls P f args x.val fun e w' => e = .returned v ∧ Below x.val.heap.size x.val w') :
    Calls P f args x.val fun e w'' => e = .returned v ∧ ∃ y : Calm W, w'' = y.val :=
  h.mono fun _ w' ⟨he, hb⟩ => ⟨he, ⟨w', x.ok.trans (hb.mono x.ok.size)⟩, rfl⟩
theorem calm_same {P : Program} {f : FuncId} {args : Array Value} {W : World} {x : Calm W} {v : Value} (h : Calls P f args x.val fun e w' => e = .returned v ∧ x.val = w') :
    Calls P f args x.val fun e w'' => e = .returned v ∧ ∃ y : Calm W, w'' = y.val :=
  h.mono fun _ _ ⟨he, hb⟩ => ⟨he, x, hb.symm⟩
theorem calm_drawn {P : Program} {f : FuncId} {args : Array Value} {W : World} {x : Calm W} {v : Value} (h : Calls P f args x.val fun e w' => e = .returned v ∧ Drawn x.val w') :
    Calls P f args x.val fun e w'' => e = .returned v ∧ ∃ y : Calm W, w'' = y.val :=
  h.mono fun _ w' ⟨he, hb⟩ => ⟨he, ⟨w', x.ok.trans (hb.below _)⟩, rfl⟩
theorem calm_cell {W : World} {a : Addr} {v : Value} (h : W.cell? a = some v) (x : Calm W) : x.val.cell? a = some v := (x.ok.cell (lt_of_cell h)).trans h

/-- a contract that leaves the world alone, for a region whose order is open -/
theorem quiet_left {P : Program} {f : FuncId} {args : Array Value} {w : World} {n : Nat} {v : Value}
    (h : Calls P f args (w.drewN n) fun e w' => e = .returned v ∧ w.drewN n = w') : Calls P f args (w.drewN n) fun e w'' => e = .returned v ∧ ∃ m, w'' = w.drewN m :=
  h.mono fun _ _ ⟨he, hm⟩ => ⟨he, n, hm.symm⟩
theorem quiet_add_left {P : Program} {f : FuncId} {args : Array Value} {w : World} {a n : Nat} {v : Value}
    (h : Calls P f args (w.drewN (a + n)) fun e w' => e = .returned v ∧ w.drewN (a + n) = w') :
    Calls P f args (w.drewN (a + n)) fun e w'' => e = .returned v ∧ ∃ m, w'' = w.drewN (a + m) :=
  h.mono fun _ _ ⟨he, hm⟩ => ⟨he, n, hm.symm⟩

set_option maxRecDepth 100000 in
set_option maxHeartbeats 400000 in
/-- spec.l6In -/
theorem l6In_any (n lo hi : Int) (w : World) :
    Calls Try.prog 52 #[.int .i64 n, .int .i64 lo, .int .i64 hi] w fun e w' => e = .returned (.bool (Fp.inr n lo hi)) ∧ w = w' := by
  go_enter Try.func52, Try.ntmps52
  go_wp2
  all_goals
    go_ret
    exact ⟨ret_bool (by simp [Fp.inr] <;> omega), rfl⟩
end Go.Proofs.Ytiglkajafdecgaa
