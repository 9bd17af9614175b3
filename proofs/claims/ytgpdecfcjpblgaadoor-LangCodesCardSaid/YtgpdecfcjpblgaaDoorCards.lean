/-
  DERIVED. GIVEN WITH THE SEED: THE CARDS: each row of YtgpdecfcjpblgaaDoorRows.lean that lists a variable, with what it lists TIED to the program's text (the seventh form; the later family's looks); each row that meets fmt, with fmt's text TOLD by the authors' own Lean function (tested against real Go, not proved from fmt's source: count such statements apart). THE CARD IS WHAT COUNTS. Prove the row's statement (the work); the ties are given (YtgpdecfcjpblgaaDoorTie.lean); close each card by the builder's one call (the guide's Derived/Test/ToyasCard.lean, 'card_holds'). Laid BY PROGRAM, IN A SANDBOX (cutbox-door.mjs). By AI agents, Wed Nov 11 2026. No macro, syntax, notation, axiom, sorry.
-/
import Derived.Test.YtgpdecfcjpblgaaDoorRows
import GoSem.ClaimSeven
namespace Go.Proofs.YtgpdecfcjpblgaaDoor
namespace Rows

/-- THE TIED CARD OF 'preludelaw03.LangCodes'. -/
def langCodesCard : Claim7 := { stood := { row := langCodesRow, standIns := [], harness := (true, "c15692a605e28696f0378219c00c428d8092964d9a999300312966ffd7295d27"), looks := false }, kinds := [], alts := [], laidByText := true, laidKinds := [.data], laidTests := true, laidLooks := .later }
def LangCodesCardSaid : Prop := Claim7.holds Tryd.pinned (.plain (OpenSpec.ofChange langCodesSpec)) langCodesCard

/-- THE SECOND FORM's CARD OF 'preludelaw03.LangCodes'. -/
def langCodesUptoCard : Claim7 := { stood := { row := langCodesUptoRow, standIns := [], harness := (true, "c15692a605e28696f0378219c00c428d8092964d9a999300312966ffd7295d27"), looks := false }, kinds := [], alts := [], laidByText := true, laidKinds := [.data], laidTests := true, laidLooks := .later }
def LangCodesUptoCardSaid : Prop := Claim7.holds Tryd.pinned (.plain (OpenSpec.upto langCodesSpec)) langCodesUptoCard
end Rows
end Go.Proofs.YtgpdecfcjpblgaaDoor
