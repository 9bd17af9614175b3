/-
  DERIVED. GIVEN WITH THE SEED: THE CARDS: each row of YtmadhcoeiclalaaDoorRows.lean that lists a variable, with what it lists TIED to the program's text (the seventh form; the later family's looks); each row that meets fmt, with fmt's text TOLD by the authors' own Lean function (tested against real Go, not proved from fmt's source: count such statements apart). THE CARD IS WHAT COUNTS. Prove the row's statement (the work); the ties are given (YtmadhcoeiclalaaDoorTie.lean); close each card by the builder's one call (the guide's Derived/Test/ToyasCard.lean, 'card_holds'). Laid BY PROGRAM, IN A SANDBOX (cutbox-door.mjs). By AI agents, Wed Nov 11 2026. No macro, syntax, notation, axiom, sorry.
-/
import Derived.Test.YtmadhcoeiclalaaDoorRows
import GoSem.ClaimSeven
namespace Go.Proofs.YtmadhcoeiclalaaDoor
namespace Rows

/-- THE TIED CARD OF 'preludelaw01.CodecSums'. -/
def codecSumsCard : Claim7 := { stood := { row := codecSumsRow, standIns := [], harness := (true, "5878cd87e7eb840799c44525a9c95d2f99c803fca1cdf8279a171188476c0e5d"), looks := true }, kinds := [], alts := [], laidByText := true, laidKinds := [.data], laidTests := true, laidLooks := .later }
def CodecSumsCardSaid : Prop := Claim7.holds Tryd.pinned (.plain (OpenSpec.ofChange codecSumsSpec)) codecSumsCard

/-- THE TIED CARD OF 'preludelaw01.CodecBursts'. -/
def codecBurstsCard : Claim7 := { stood := { row := codecBurstsRow, standIns := [], harness := (true, "5878cd87e7eb840799c44525a9c95d2f99c803fca1cdf8279a171188476c0e5d"), looks := true }, kinds := [], alts := [], laidByText := true, laidKinds := [.data], laidTests := true, laidLooks := .later }
def CodecBurstsCardSaid : Prop := Claim7.holds Tryd.pinned (.plain (OpenSpec.ofChange codecBurstsSpec)) codecBurstsCard

/-- THE TIED CARD OF 'preludelaw01.CodecSeals'. -/
def codecSealsCard : Claim7 := { stood := { row := codecSealsRow, standIns := [], harness := (true, "5878cd87e7eb840799c44525a9c95d2f99c803fca1cdf8279a171188476c0e5d"), looks := true }, kinds := [], alts := [], laidByText := true, laidKinds := [.data], laidTests := true, laidLooks := .later }
def CodecSealsCardSaid : Prop := Claim7.holds Tryd.pinned (.plain (OpenSpec.ofChange codecSealsSpec)) codecSealsCard

/-- THE TIED CARD OF 'preludelaw01.CodecRecords'. -/
def codecRecordsCard : Claim7 := { stood := { row := codecRecordsRow, standIns := [], harness := (true, "5878cd87e7eb840799c44525a9c95d2f99c803fca1cdf8279a171188476c0e5d"), looks := true }, kinds := [], alts := [], laidByText := true, laidKinds := [.data], laidTests := true, laidLooks := .later }
def CodecRecordsCardSaid : Prop := Claim7.holds Tryd.pinned (.plain (OpenSpec.ofChange codecRecordsSpec)) codecRecordsCard

/-- THE TIED CARD OF 'preludelaw01.CodecFlips'. -/
def codecFlipsCard : Claim7 := { stood := { row := codecFlipsRow, standIns := [], harness := (true, "5878cd87e7eb840799c44525a9c95d2f99c803fca1cdf8279a171188476c0e5d"), looks := true }, kinds := [], alts := [], laidByText := true, laidKinds := [.data], laidTests := true, laidLooks := .later }
def CodecFlipsCardSaid : Prop := Claim7.holds Tryd.pinned (.plain (OpenSpec.ofChange codecFlipsSpec)) codecFlipsCard

/-- THE TIED CARD OF 'preludelaw01.CodecDigits'. -/
def codecDigitsCard : Claim7 := { stood := { row := codecDigitsRow, standIns := [], harness := (true, "5878cd87e7eb840799c44525a9c95d2f99c803fca1cdf8279a171188476c0e5d"), looks := true }, kinds := [], alts := [], laidByText := true, laidKinds := [.data, .data, .data, .sentinel, .sentinel], laidTests := true, laidLooks := .later }
def CodecDigitsCardSaid : Prop := Claim7.holds Tryd.pinned (.plain (OpenSpec.ofChange codecDigitsSpec)) codecDigitsCard

/-- THE SECOND FORM's CARD OF 'preludelaw01.CodecSums'. -/
def codecSumsUptoCard : Claim7 := { stood := { row := codecSumsUptoRow, standIns := [], harness := (true, "5878cd87e7eb840799c44525a9c95d2f99c803fca1cdf8279a171188476c0e5d"), looks := true }, kinds := [], alts := [], laidByText := true, laidKinds := [.data], laidTests := true, laidLooks := .later }
def CodecSumsUptoCardSaid : Prop := Claim7.holds Tryd.pinned (.plain (OpenSpec.upto codecSumsSpec)) codecSumsUptoCard

/-- THE SECOND FORM's CARD OF 'preludelaw01.CodecBursts'. -/
def codecBurstsUptoCard : Claim7 := { stood := { row := codecBurstsUptoRow, standIns := [], harness := (true, "5878cd87e7eb840799c44525a9c95d2f99c803fca1cdf8279a171188476c0e5d"), looks := true }, kinds := [], alts := [], laidByText := true, laidKinds := [.data], laidTests := true, laidLooks := .later }
def CodecBurstsUptoCardSaid : Prop := Claim7.holds Tryd.pinned (.plain (OpenSpec.upto codecBurstsSpec)) codecBurstsUptoCard

/-- THE SECOND FORM's CARD OF 'preludelaw01.CodecSeals'. -/
def codecSealsUptoCard : Claim7 := { stood := { row := codecSealsUptoRow, standIns := [], harness := (true, "5878cd87e7eb840799c44525a9c95d2f99c803fca1cdf8279a171188476c0e5d"), looks := true }, kinds := [], alts := [], laidByText := true, laidKinds := [.data], laidTests := true, laidLooks := .later }
def CodecSealsUptoCardSaid : Prop := Claim7.holds Tryd.pinned (.plain (OpenSpec.upto codecSealsSpec)) codecSealsUptoCard

/-- THE SECOND FORM's CARD OF 'preludelaw01.CodecRecords'. -/
def codecRecordsUptoCard : Claim7 := { stood := { row := codecRecordsUptoRow, standIns := [], harness := (true, "5878cd87e7eb840799c44525a9c95d2f99c803fca1cdf8279a171188476c0e5d"), looks := true }, kinds := [], alts := [], laidByText := true, laidKinds := [.data], laidTests := true, laidLooks := .later }
def CodecRecordsUptoCardSaid : Prop := Claim7.holds Tryd.pinned (.plain (OpenSpec.upto codecRecordsSpec)) codecRecordsUptoCard

/-- THE SECOND FORM's CARD OF 'preludelaw01.CodecFlips'. -/
def codecFlipsUptoCard : Claim7 := { stood := { row := codecFlipsUptoRow, standIns := [], harness := (true, "5878cd87e7eb840799c44525a9c95d2f99c803fca1cdf8279a171188476c0e5d"), looks := true }, kinds := [], alts := [], laidByText := true, laidKinds := [.data], laidTests := true, laidLooks := .later }
def CodecFlipsUptoCardSaid : Prop := Claim7.holds Tryd.pinned (.plain (OpenSpec.upto codecFlipsSpec)) codecFlipsUptoCard

/-- THE SECOND FORM's CARD OF 'preludelaw01.CodecDigits'. -/
def codecDigitsUptoCard : Claim7 := { stood := { row := codecDigitsUptoRow, standIns := [], harness := (true, "5878cd87e7eb840799c44525a9c95d2f99c803fca1cdf8279a171188476c0e5d"), looks := true }, kinds := [], alts := [], laidByText := true, laidKinds := [.data, .data, .data, .sentinel, .sentinel], laidTests := true, laidLooks := .later }
def CodecDigitsUptoCardSaid : Prop := Claim7.holds Tryd.pinned (.plain (OpenSpec.upto codecDigitsSpec)) codecDigitsUptoCard
end Rows
end Go.Proofs.YtmadhcoeiclalaaDoor
