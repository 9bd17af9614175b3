/-
  DERIVED. GIVEN WITH THE SEED: THE CARDS: each row of YtlnhecbgjjglfaaDoorRows.lean that lists a variable, with what it lists TIED to the program's text (the seventh form; the later family's looks); each row that meets fmt, with fmt's text TOLD by the authors' own Lean function (tested against real Go, not proved from fmt's source: count such statements apart). THE CARD IS WHAT COUNTS. Prove the row's statement (the work); the ties are given (YtlnhecbgjjglfaaDoorTie.lean); close each card by the builder's one call (the guide's Derived/Test/ToyasCard.lean, 'card_holds'). Laid BY PROGRAM, IN A SANDBOX (cutbox-door.mjs). By AI agents, Wed Nov 11 2026. No macro, syntax, notation, axiom, sorry.
-/
import Derived.Test.YtlnhecbgjjglfaaDoorRows
import GoSem.ClaimSeven
namespace Go.Proofs.YtlnhecbgjjglfaaDoor
namespace Rows

/-- THE TIED CARD OF 'preludelaw06.BatchAccepts'. -/
def batchAcceptsCard : Claim7 := { stood := { row := batchAcceptsRow, standIns := [], harness := (true, "d269e4b45a5ef4805b4091732e7b127786b2c12d2984470dbe3f1fec9d28adee"), looks := true }, kinds := [], alts := [], laidByText := true, laidKinds := [.handle], laidTests := true, laidLooks := .later }
def BatchAcceptsCardSaid : Prop := Claim7.holds Tryd.pinned (.plain (OpenSpec.ofChange batchAcceptsSpec)) batchAcceptsCard

/-- THE SECOND FORM's CARD OF 'preludelaw06.BatchAccepts'. -/
def batchAcceptsUptoCard : Claim7 := { stood := { row := batchAcceptsUptoRow, standIns := [], harness := (true, "d269e4b45a5ef4805b4091732e7b127786b2c12d2984470dbe3f1fec9d28adee"), looks := true }, kinds := [], alts := [], laidByText := true, laidKinds := [.handle], laidTests := true, laidLooks := .later }
def BatchAcceptsUptoCardSaid : Prop := Claim7.holds Tryd.pinned (.plain (OpenSpec.upto batchAcceptsSpec)) batchAcceptsUptoCard
end Rows
end Go.Proofs.YtlnhecbgjjglfaaDoor
