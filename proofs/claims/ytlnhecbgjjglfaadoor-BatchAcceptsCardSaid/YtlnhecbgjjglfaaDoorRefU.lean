/- RefU: the document's numbers as bytes (for seats without the laws of 01). -/
import Derived.Test.YtlnhecbgjjglfaaDoorWr
set_option linter.unusedVariables false
set_option linter.unusedSimpArgs false
namespace Go.Proofs.YtlnhecbgjjglfaaDoor
open Go Go.Sh Go.Pl Go.RowKit Go.Num
end Go.Proofs.YtlnhecbgjjglfaaDoor
