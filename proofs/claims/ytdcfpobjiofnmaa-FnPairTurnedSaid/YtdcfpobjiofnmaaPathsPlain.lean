/-
  Plain facts on the strengths of paths: what both do, step for step. No program in sight.
-/
import Derived.Test.YtdcfpobjiofnmaaPairPlain
namespace Go.Proofs.Ytdcfpobjiofnmaa.Bp
set_option linter.unusedVariables false
open Go

/-- the strength of a step -/
def dir (ps : List Pile) (x y : Nat) : Int := if pref ps y x < pref ps x y then pref ps x y else 0
/-- a path via o from x to y -/
def via (o x y : Nat) (f : Nat → Nat → Int) (i j : Nat) : Int := if i = x ∧ j = y ∧ x ≠ y then max (f x y) (min (f x o) (f o y)) else f i j
def viaY (o x : Nat) (f : Nat → Nat → Int) : Nat → Nat → Nat → Int
  | 0 => f
  | y + 1 => via o x y (viaY o x f y)
def viaX (n o : Nat) (f : Nat → Nat → Int) : Nat → Nat → Nat → Int
  | 0 => f
  | x + 1 => viaY o x (viaX n o f x) n
def viaO (n : Nat) (f : Nat → Nat → Int) : Nat → Nat → Nat → Int
  | 0 => f
  | o + 1 => viaX n o (viaO n f o) n
def pathF (ps : List Pile) (n : Nat) : Nat → Nat → Int := viaO n (dir ps) n
def paths (ps : List Pile) (n : Nat) : List (List Int) := tabs n (pathF ps n)
theorem via_self (o x : Nat) (f : Nat → Nat → Int) : via o x x f = f := by
  funext i j
  unfold via
  rw [if_neg (fun h => h.2.2 rfl)]
theorem via_tabs {n o x y : Nat} (f : Nat → Nat → Int) (hx : x < n) (hy : y < n) (hxy : x ≠ y) :
    (tabs n f).set x (((tabs n f).getD x []).set y (max (f x y) (min (f x o) (f o y)))) = tabs n (via o x y f) :=
  tabs_set hx hy (by unfold via; rw [if_pos ⟨rfl, rfl, hxy⟩]) (fun i j _ _ h => by
    unfold via
    rw [if_neg (fun e => h ⟨e.1, e.2.1⟩)])
end Go.Proofs.Ytdcfpobjiofnmaa.Bp
