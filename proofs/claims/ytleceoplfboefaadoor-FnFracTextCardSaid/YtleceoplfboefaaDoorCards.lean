/-
  DERIVED. GIVEN WITH THE SEED: THE CARDS: each row of YtleceoplfboefaaDoorRows.lean that lists a variable, with what it lists TIED to the program's text (the seventh form; the later family's looks); each row that meets fmt, with fmt's text TOLD by the authors' own Lean function (tested against real Go, not proved from fmt's source: count such statements apart). THE CARD IS WHAT COUNTS. Prove the row's statement (the work); the ties are given (YtleceoplfboefaaDoorTie.lean); close each card by the builder's one call (the guide's Derived/Test/ToyasCard.lean, 'card_holds'). Laid BY PROGRAM, IN A SANDBOX (cutbox-door.mjs). By AI agents, Wed Nov 11 2026. No macro, syntax, notation, axiom, sorry.
-/
import Derived.Test.YtleceoplfboefaaDoorRows
import GoSem.ClaimSeven
namespace Go.Proofs.YtleceoplfboefaaDoor
namespace Rows

/-- THE TIED CARD OF 'laws.FnExactFracText'. -/
def fnExactFracTextCard : Claim7 := { stood := { row := fnExactFracTextRow, standIns := [], harness := (true, "04ab8fdbb37979ba637183a59ef91f274a444e9833c145c2e36fc271020d6036"), looks := false }, kinds := [], alts := [], laidByText := true, laidKinds := [.data, .data, .data], laidTests := true, laidLooks := .later }
def FnExactFracTextCardSaid : Prop := Claim7.holds Tryd.pinned (.plain (OpenSpec.ofChange fnExactFracTextSpec)) fnExactFracTextCard

/-- THE TIED CARD OF 'laws.FnFracText'. -/
def fnFracTextCard : Claim7 := { stood := { row := fnFracTextRow, standIns := [], harness := (true, "04ab8fdbb37979ba637183a59ef91f274a444e9833c145c2e36fc271020d6036"), looks := false }, kinds := [], alts := [], laidByText := true, laidKinds := [.data, .data, .data], laidTests := true, laidLooks := .later }
def FnFracTextCardSaid : Prop := Claim7.holds Tryd.pinned (.plain (OpenSpec.ofChange fnFracTextSpec)) fnFracTextCard

/-- THE SECOND FORM's CARD OF 'laws.FnExactFracText'. -/
def fnExactFracTextUptoCard : Claim7 := { stood := { row := fnExactFracTextUptoRow, standIns := [], harness := (true, "04ab8fdbb37979ba637183a59ef91f274a444e9833c145c2e36fc271020d6036"), looks := false }, kinds := [], alts := [], laidByText := true, laidKinds := [.data, .data, .data], laidTests := true, laidLooks := .later }
def FnExactFracTextUptoCardSaid : Prop := Claim7.holds Tryd.pinned (.plain (OpenSpec.upto fnExactFracTextSpec)) fnExactFracTextUptoCard

/-- THE SECOND FORM's CARD OF 'laws.FnFracText'. -/
def fnFracTextUptoCard : Claim7 := { stood := { row := fnFracTextUptoRow, standIns := [], harness := (true, "04ab8fdbb37979ba637183a59ef91f274a444e9833c145c2e36fc271020d6036"), looks := false }, kinds := [], alts := [], laidByText := true, laidKinds := [.data, .data, .data], laidTests := true, laidLooks := .later }
def FnFracTextUptoCardSaid : Prop := Claim7.holds Tryd.pinned (.plain (OpenSpec.upto fnFracTextSpec)) fnFracTextUptoCard
end Rows
end Go.Proofs.YtleceoplfboefaaDoor
