/- RefE: the document's Depths, Verify. -/
import Derived.Test.YtlnhecbgjjglfaaGreatRefD
set_option linter.unusedVariables false
set_option linter.unusedSimpArgs false
namespace Go.Proofs.YtlnhecbgjjglfaaGreat
open Go Go.Sh Go.Pl Go.RowKit Go.Lang Go.Names
end Go.Proofs.YtlnhecbgjjglfaaGreat
