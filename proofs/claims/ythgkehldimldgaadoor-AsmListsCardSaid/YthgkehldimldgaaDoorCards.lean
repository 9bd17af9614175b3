/-
  DERIVED. GIVEN WITH THE SEED: THE CARDS: each row of YthgkehldimldgaaDoorRows.lean that lists a variable, with what it lists TIED to the program's text (the seventh form; the later family's looks); each row that meets fmt, with fmt's text TOLD by the authors' own Lean function (tested against real Go, not proved from fmt's source: count such statements apart). THE CARD IS WHAT COUNTS. Prove the row's statement (the work); the ties are given (YthgkehldimldgaaDoorTie.lean); close each card by the builder's one call (the guide's Derived/Test/ToyasCard.lean, 'card_holds'). Laid BY PROGRAM, IN A SANDBOX (cutbox-door.mjs). By AI agents, Wed Nov 11 2026. No macro, syntax, notation, axiom, sorry.
-/
import Derived.Test.YthgkehldimldgaaDoorRows
import GoSem.ClaimSeven
namespace Go.Proofs.YthgkehldimldgaaDoor
namespace Rows

/-- THE TIED CARD OF 'preludelaw04.AsmLists'. -/
def asmListsCard : Claim7 := { stood := { row := asmListsRow, standIns := [], harness := (true, "a25e3bd78dbc9f7d6895c58d743563f4beadbc1107d444e3159a56ffa0558a08"), looks := false }, kinds := [], alts := [], laidByText := true, laidKinds := [.data, .data, .data], laidTests := true, laidLooks := .later }
def AsmListsCardSaid : Prop := Claim7.holds Tryd.pinned (.plain (OpenSpec.ofChange asmListsSpec)) asmListsCard

/-- THE SECOND FORM's CARD OF 'preludelaw04.AsmLists'. -/
def asmListsUptoCard : Claim7 := { stood := { row := asmListsUptoRow, standIns := [], harness := (true, "a25e3bd78dbc9f7d6895c58d743563f4beadbc1107d444e3159a56ffa0558a08"), looks := false }, kinds := [], alts := [], laidByText := true, laidKinds := [.data, .data, .data], laidTests := true, laidLooks := .later }
def AsmListsUptoCardSaid : Prop := Claim7.holds Tryd.pinned (.plain (OpenSpec.upto asmListsSpec)) asmListsUptoCard
end Rows
end Go.Proofs.YthgkehldimldgaaDoor
