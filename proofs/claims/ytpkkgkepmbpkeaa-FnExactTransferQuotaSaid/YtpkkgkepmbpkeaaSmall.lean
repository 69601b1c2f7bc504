/-
  Small functions that many others call: the reference's l6In. Calls that write nothing, inside a statement whose order is open.
-/
import Derived.Test.YtpkkgkepmbpkeaaBase
import Derived.Deep.QuietTactic
import Derived.BigQuiet
namespace Go.Proofs.Ytpkkgkepmbpkeaa
set_option linter.unusedVariables false
open Go.RowKit

/-- w' is w behind some draws -/
def Drawn (w w' : World) : Prop := ∃ k, w' = w.drewN k
theorem Drawn.refl (w : World) : Drawn w w := ⟨0, rfl⟩
theorem Drawn.drewN {w w' : World} (h : Drawn w w') (n : Nat) : Drawn w (w'.drewN n) := by
  obtain ⟨k, rfl⟩ := h
  exact ⟨k + n, by rw [World.drewN_drewN]⟩
theorem Drawn.drew {w w' : World} (h : Drawn w w') : Drawn w w'.drew := h.drewN 1
theorem Drawn.below {w w' : World} (h : Drawn w w') (B : Nat) : Below B w w' := by
  obtain ⟨k, rfl⟩ := h
  exact below_drewN (Below.refl _ _) _
theorem Drawn.trans {a b c : World} (h : Drawn a b) (k : Drawn b c) : Drawn a c := by
  obtain ⟨n, rfl⟩ := k
  exact h.drewN n
theorem Ints.drewN {w : World} {B n : Nat} {A : Option Addr} {zs : List Int} (h : Ints w B A n zs) (k : Nat) : Ints (w.drewN k) B A n zs := h
theorem Bools.drewN {w : World} {B n : Nat} {A : Option Addr} {zs : List Bool} (h : Bools w B A n zs) (k : Nat) : Bools (w.drewN k) B A n zs := h
theorem Piles.drewN {w : World} {B n : Nat} {A : Option Addr} {zs : List (ByteArray × Int)} (h : Piles w B A n zs) (k : Nat) : Piles (w.drewN k) B A n zs := h
theorem drawn_left {P : Program} {f : FuncId} {args : Array Value} {w : World} {n : Nat} {v : Value}
    (h : Calls P f args (w.drewN n) fun e w' => e = .returned v ∧ Drawn (w.drewN n) w') : Calls P f args (w.drewN n) fun e w'' => e = .returned v ∧ ∃ m, w'' = w.drewN m :=
  h.mono fun _ _ ⟨he, hm⟩ => ⟨he, by
    obtain ⟨k, hk⟩ := hm
    exact ⟨n + k, by rw [hk, World.drewN_drewN]⟩⟩

/-- the worlds that have turned nothing of what lay in W -/
structure Calm (W : World) where
  val : World
  ok : Below W.heap.size W val
instance (W : World) : Nonempty (Calm W) := ⟨⟨W, Below.refl _ _⟩⟩
/-- a statement whose order is open, whose calls make memory but turn none, and answer the same in each such world: one walk in the order of the text -/
theorem wp_region_calm {P : Program} {id : Nat} {Q : Exit → Act → World → Prop} {a : Act} {W : World} {l : List Oper} (hm : P.follows .mixedOrders = true) (hB : Region.lexB .any l.toArray = true)
    (h : wpQuiet P l.toArray (fun w' => ∃ x : Calm W, w' = x.val) (fun a' => ∀ w', (∃ x : Calm W, w' = x.val) → Q .normal a' w') l a) : (Code.region id l.toArray true).wp P Q a W :=
  wp_region_quiet (C := fun w' => ∃ x : Calm W, w' = x.val) hm hB ⟨⟨W.drew, (Below.refl _ _).drew⟩, rfl⟩ (by simpa using h)
theorem calm_call {P : Program} {f : FuncId} {args : Array Value} {W : World} {x : Calm W} {v : Value} (h : Calls P f args x.val fun e w' => e = .returned v ∧ Below x.val.heap.size x.val w') :
    Calls P f args x.val fun e w'' => e = .returned v ∧ ∃ y : Calm W, w'' = y.val :=
  h.mono fun _ w' ⟨he, hb⟩ => ⟨he, ⟨w', x.ok.trans (hb.mono x.ok.size)⟩, rfl⟩
theorem calm_same {P : Program} {f : FuncId} {args : Array Value} {W : World} {x : Calm W} {v : Value} (h : Calls P f args x.val fun e w' => e = .returned v ∧ x.val = w') :
    Calls P f args x.val fun e w'' => e = .returned v ∧ ∃ y : Calm W, w'' = y.val :=
  h.mono fun _ _ ⟨he, hb⟩ => ⟨he, x, hb.symm⟩
theorem calm_drawn {P : Program} {f : FuncId} {args : Array Value} {W : World} {x : Calm W} {v : Value} (h : Calls P f args x.val fun e w' => e = .returned v ∧ Drawn x.val w') :
    Calls P f args x.val fun e w'' => e = .returned v ∧ ∃ y : Calm W, w'' = y.val :=
  h.mono fun _ w' ⟨he, hb⟩ => ⟨he, ⟨w', x.ok.trans (hb.below _)⟩, rfl⟩
theorem calm_cell {W : World} {a : Addr} {v : Value} (h : W.cell? a = some v) (x : Calm W) : x.val.cell? a = some v := (x.ok.cell (lt_of_cell h)).trans h

/-- a contract that leaves the world alone, for a region whose order is open -/
theorem quiet_left {P : Program} {f : FuncId} {args : Array Value} {w : World} {n : Nat} {v : Value}
    (h : Calls P f args (w.drewN n) fun e w' => e = .returned v ∧ w.drewN n = w') : Calls P f args (w.drewN n) fun e w'' => e = .returned v ∧ ∃ m, w'' = w.drewN m :=
  h.mono fun _ _ ⟨he, hm⟩ => ⟨he, n, hm.symm⟩
theorem quiet_add_left {P : Program} {f : FuncId} {args : Array Value} {w : World} {a n : Nat} {v : Value}
    (h : Calls P f args (w.drewN (a + n)) fun e w' => e = .returned v ∧ w.drewN (a + n) = w') :
    Calls P f args (w.drewN (a + n)) fun e w'' => e = .returned v ∧ ∃ m, w'' = w.drewN (a + m) :=
  h.mono fun _ _ ⟨he, hm⟩ => ⟨he, n, hm.symm⟩

set_option maxRecDepth 100000 in
set_option maxHeartbeats 400000 in
/-- spec.l6In -/
theorem l6In_any (n lo hi : Int) (w : World) :
    Calls Try.prog 19 #[.int .i64 n, .int .i64 lo, .int .i64 hi] w fun e w' => e = .returned (.bool (Fp.inr n lo hi)) ∧ w = w' := by
  go_enter Try.func19, Try.ntmps19
  go_wp2
  all_goals
    go_ret
    exact ⟨ret_bool (by simp [Fp.inr] <;> omega), rfl⟩
end Go.Proofs.Ytpkkgkepmbpkeaa
