/- By: what the small functions on bytes come to: same, copied, roomy, intact, slices.Clone. -/
import Derived.Test.YtlnhecbgjjglfaaGen
import Derived.Test.YtlnhecbgjjglfaaPl
set_option linter.unusedVariables false
set_option linter.unusedSimpArgs false
namespace Go.Proofs.Ytlnhecbgjjglfaa
open Go Go.Sh Go.Pl Go.RowKit
theorem TU8 : ElT Try.prog 50 5 (.int .u8 0) 1 1 := ⟨by kernel_rfl, by kernel_rfl, rfl, by decide⟩
end Go.Proofs.Ytlnhecbgjjglfaa
