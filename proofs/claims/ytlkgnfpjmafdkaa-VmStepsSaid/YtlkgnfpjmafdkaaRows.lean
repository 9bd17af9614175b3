/-
  No cell of these rows narrows 'for every input' (looked for: loops, veiled, ifaces, maps, wideKeys, modest, calm, conditions, laid).
  DERIVED. THE GIVEN ROWS OF THIS SEAT. 6 by the template 'for every input the law returns true; each argument reads behind the call as it read before'; 0 by the template 'total and deterministic' (their statements: YtlkgnfpjmafdkaaTotals.lean).
  GIVEN WITH THE SEED: the statements are not yours to turn. If you find one false, say at which input.
  Laid BY PROGRAM, IN A SANDBOX (cutbox-rows.mjs): the forced cells as the released guide's own fill.sh prints them over the translation 0d75a36a20b707bf… (all of the seat's roots in one cut). By AI agents, Wed Nov 11 2026. No macro, syntax, notation, axiom, sorry.
-/
import Derived.Test.YtlkgnfpjmafdkaaChecked
import GoSem.Claim
import GoSem.ClaimJoined
import GoSem.ClaimMapViews
import Derived.JoinedTies
import Derived.KernelRfl
namespace Go.Proofs.Ytlkgnfpjmafdkaa
/- THE CELL 'sum', in the pinned program and in every row, IS THE sha256 OF THE DUMP (.gsa) THAT YtlkgnfpjmafdkaaProg.lean LOADS. Nothing in Lean hashes anything: it is a label: what it is worth is what the hold of that sum in a sandbox is worth. -/
noncomputable def Try.pinned : Pinned := { name := "ytlkgnfpjmafdkaa", sum := "0d75a36a20b707bf268d11116da0944922c8f9e2231a43723f3832c819c22489", checked := Try.checked }
namespace Rows
def none {H : Type} : Left H := { results := [], args := [] }

/-- 'preludelaw05.VmSteps': WHATEVER THE INPUT: true; the input reads as it did. -/
def vmStepsSpec : ChangeSpec := { name := "vmSteps", fn := fun _ => fun
  | [d1, d2, d3] => { results := [.lit (.bool true)], args := [d1, d2, d3] }
  | _ => none }
def vmStepsRow : OpenClaim := { program := "ytlkgnfpjmafdkaa", sum := "0d75a36a20b707bf268d11116da0944922c8f9e2231a43723f3832c819c22489", func := "prelude/preludelaw05.VmSteps", spec := "vmSteps", unfollowed := true, recurses := true, apart := false }
def VmStepsSaid : Prop := vmStepsRow.holds Try.pinned (OpenSpec.ofChange vmStepsSpec)

/-- ITS FALSE NEIGHBOUR: 'it returns false'. Refute it at one input. -/
def vmStepsWrong : ChangeSpec := { name := "vmSteps", fn := fun _ => fun
  | [d1, d2, d3] => { results := [.lit (.bool false)], args := [d1, d2, d3] }
  | _ => none }
def VmStepsWrongFalsely : Prop := vmStepsRow.holds Try.pinned (OpenSpec.ofChange vmStepsWrong)

/-- 'preludelaw05.VmRuns': WHATEVER THE INPUT: true; the input reads as it did. -/
def vmRunsSpec : ChangeSpec := { name := "vmRuns", fn := fun _ => fun
  | [d] => { results := [.lit (.bool true)], args := [d] }
  | _ => none }
def vmRunsRow : OpenClaim := { program := "ytlkgnfpjmafdkaa", sum := "0d75a36a20b707bf268d11116da0944922c8f9e2231a43723f3832c819c22489", func := "prelude/preludelaw05.VmRuns", spec := "vmRuns", unfollowed := true, recurses := true, apart := false }
def VmRunsSaid : Prop := vmRunsRow.holds Try.pinned (OpenSpec.ofChange vmRunsSpec)

/-- ITS FALSE NEIGHBOUR: 'it returns false'. Refute it at one input. -/
def vmRunsWrong : ChangeSpec := { name := "vmRuns", fn := fun _ => fun
  | [d] => { results := [.lit (.bool false)], args := [d] }
  | _ => none }
def VmRunsWrongFalsely : Prop := vmRunsRow.holds Try.pinned (OpenSpec.ofChange vmRunsWrong)

/-- 'preludelaw05.VmBlind': WHATEVER THE INPUT: true; the input reads as it did. -/
def vmBlindSpec : ChangeSpec := { name := "vmBlind", fn := fun _ => fun
  | [d1, d2] => { results := [.lit (.bool true)], args := [d1, d2] }
  | _ => none }
def vmBlindRow : OpenClaim := { program := "ytlkgnfpjmafdkaa", sum := "0d75a36a20b707bf268d11116da0944922c8f9e2231a43723f3832c819c22489", func := "prelude/preludelaw05.VmBlind", spec := "vmBlind", unfollowed := true, recurses := true, apart := false }
def VmBlindSaid : Prop := vmBlindRow.holds Try.pinned (OpenSpec.ofChange vmBlindSpec)

/-- ITS FALSE NEIGHBOUR: 'it returns false'. Refute it at one input. -/
def vmBlindWrong : ChangeSpec := { name := "vmBlind", fn := fun _ => fun
  | [d1, d2] => { results := [.lit (.bool false)], args := [d1, d2] }
  | _ => none }
def VmBlindWrongFalsely : Prop := vmBlindRow.holds Try.pinned (OpenSpec.ofChange vmBlindWrong)

/-- 'preludelaw05.VmArith': WHATEVER THE INPUT: true; the input reads as it did. -/
def vmArithSpec : ChangeSpec := { name := "vmArith", fn := fun _ => fun
  | [d1, d2, d3] => { results := [.lit (.bool true)], args := [d1, d2, d3] }
  | _ => none }
def vmArithRow : OpenClaim := { program := "ytlkgnfpjmafdkaa", sum := "0d75a36a20b707bf268d11116da0944922c8f9e2231a43723f3832c819c22489", func := "prelude/preludelaw05.VmArith", spec := "vmArith", unfollowed := true, recurses := true, apart := false }
def VmArithSaid : Prop := vmArithRow.holds Try.pinned (OpenSpec.ofChange vmArithSpec)

/-- ITS FALSE NEIGHBOUR: 'it returns false'. Refute it at one input. -/
def vmArithWrong : ChangeSpec := { name := "vmArith", fn := fun _ => fun
  | [d1, d2, d3] => { results := [.lit (.bool false)], args := [d1, d2, d3] }
  | _ => none }
def VmArithWrongFalsely : Prop := vmArithRow.holds Try.pinned (OpenSpec.ofChange vmArithWrong)

/-- 'preludelaw05.VmDriven': WHATEVER THE INPUT: true; the input reads as it did. -/
def vmDrivenSpec : ChangeSpec := { name := "vmDriven", fn := fun _ => fun
  | [d] => { results := [.lit (.bool true)], args := [d] }
  | _ => none }
def vmDrivenRow : OpenClaim := { program := "ytlkgnfpjmafdkaa", sum := "0d75a36a20b707bf268d11116da0944922c8f9e2231a43723f3832c819c22489", func := "prelude/preludelaw05.VmDriven", spec := "vmDriven", unfollowed := true, recurses := true, apart := false }
def VmDrivenSaid : Prop := vmDrivenRow.holds Try.pinned (OpenSpec.ofChange vmDrivenSpec)

/-- ITS FALSE NEIGHBOUR: 'it returns false'. Refute it at one input. -/
def vmDrivenWrong : ChangeSpec := { name := "vmDriven", fn := fun _ => fun
  | [d] => { results := [.lit (.bool false)], args := [d] }
  | _ => none }
def VmDrivenWrongFalsely : Prop := vmDrivenRow.holds Try.pinned (OpenSpec.ofChange vmDrivenWrong)

/-- 'preludelaw05.VmEnds': WHATEVER THE INPUT: true; the input reads as it did. -/
def vmEndsSpec : ChangeSpec := { name := "vmEnds", fn := fun _ => fun
  | [d] => { results := [.lit (.bool true)], args := [d] }
  | _ => none }
def vmEndsRow : OpenClaim := { program := "ytlkgnfpjmafdkaa", sum := "0d75a36a20b707bf268d11116da0944922c8f9e2231a43723f3832c819c22489", func := "prelude/preludelaw05.VmEnds", spec := "vmEnds", unfollowed := true, recurses := true, apart := false }
def VmEndsSaid : Prop := vmEndsRow.holds Try.pinned (OpenSpec.ofChange vmEndsSpec)

/-- ITS FALSE NEIGHBOUR: 'it returns false'. Refute it at one input. -/
def vmEndsWrong : ChangeSpec := { name := "vmEnds", fn := fun _ => fun
  | [d] => { results := [.lit (.bool false)], args := [d] }
  | _ => none }
def VmEndsWrongFalsely : Prop := vmEndsRow.holds Try.pinned (OpenSpec.ofChange vmEndsWrong)

/- THE SECOND FORM. 'bulk': how many values and letters a reading holds, each counted each time it is reached (what is shared counts as often as it is met; a slice's spare places count too). A statement '..UptoSaid' is the law's where the arguments, and the package variables that the reading takes, are together of bulk at most 1048576: NARROWER than '..Said'. Prove '..Said' where nothing that the law and all that it calls make is longer than what came in: it says more and counts as full. Else prove '..UptoSaid'. A law counts once. -/
mutual
def uptoBulk {H : Type} : DataW H → Nat
  | .lit (.string bytes) => bytes.length + 1
  | .lit _ => 1
  | .nil => 1
  | .ptr d => uptoBulk d + 1
  | .slice elems spare => uptoBulkAll elems + uptoBulkAll spare + 1
  | .agg parts => uptoBulkAll parts + 1
  | .iface _ d => uptoBulk d + 1
  | .map entries => uptoBulkEntries entries + 1
  | .held _ => 1
def uptoBulkAll {H : Type} : List (DataW H) → Nat
  | [] => 0
  | d :: r => uptoBulk d + uptoBulkAll r
def uptoBulkEntries {H : Type} : List (Lit × DataW H) → Nat
  | [] => 0
  | x :: r => uptoBulkEntry x + uptoBulkEntries r
def uptoBulkEntry {H : Type} : Lit × DataW H → Nat
  | (.string bytes, d) => bytes.length + uptoBulk d + 1
  | (_, d) => uptoBulk d + 1
 end
def uptoSmall : (H : Type) → List (DataW H) → Bool := fun _ ds => decide (uptoBulkAll ds ≤ 1048576)
def OpenSpec.upto (s : _root_.Go.ChangeSpec) : _root_.Go.OpenSpec := { _root_.Go.OpenSpec.ofChange s with cond := some uptoSmall }

/-- 'preludelaw05.VmSteps', WHERE WHAT IT READS IS OF BULK AT MOST 1048576: true; the input reads as it did. -/
def vmStepsUptoRow : OpenClaim := { program := "ytlkgnfpjmafdkaa", sum := "0d75a36a20b707bf268d11116da0944922c8f9e2231a43723f3832c819c22489", func := "prelude/preludelaw05.VmSteps", spec := "vmSteps", unfollowed := true, recurses := true, apart := false, narrowed := true }
def VmStepsUptoSaid : Prop := vmStepsUptoRow.holds Try.pinned (OpenSpec.upto vmStepsSpec)

/-- 'preludelaw05.VmRuns', WHERE WHAT IT READS IS OF BULK AT MOST 1048576: true; the input reads as it did. -/
def vmRunsUptoRow : OpenClaim := { program := "ytlkgnfpjmafdkaa", sum := "0d75a36a20b707bf268d11116da0944922c8f9e2231a43723f3832c819c22489", func := "prelude/preludelaw05.VmRuns", spec := "vmRuns", unfollowed := true, recurses := true, apart := false, narrowed := true }
def VmRunsUptoSaid : Prop := vmRunsUptoRow.holds Try.pinned (OpenSpec.upto vmRunsSpec)

/-- 'preludelaw05.VmBlind', WHERE WHAT IT READS IS OF BULK AT MOST 1048576: true; the input reads as it did. -/
def vmBlindUptoRow : OpenClaim := { program := "ytlkgnfpjmafdkaa", sum := "0d75a36a20b707bf268d11116da0944922c8f9e2231a43723f3832c819c22489", func := "prelude/preludelaw05.VmBlind", spec := "vmBlind", unfollowed := true, recurses := true, apart := false, narrowed := true }
def VmBlindUptoSaid : Prop := vmBlindUptoRow.holds Try.pinned (OpenSpec.upto vmBlindSpec)

/-- 'preludelaw05.VmArith', WHERE WHAT IT READS IS OF BULK AT MOST 1048576: true; the input reads as it did. -/
def vmArithUptoRow : OpenClaim := { program := "ytlkgnfpjmafdkaa", sum := "0d75a36a20b707bf268d11116da0944922c8f9e2231a43723f3832c819c22489", func := "prelude/preludelaw05.VmArith", spec := "vmArith", unfollowed := true, recurses := true, apart := false, narrowed := true }
def VmArithUptoSaid : Prop := vmArithUptoRow.holds Try.pinned (OpenSpec.upto vmArithSpec)

/-- 'preludelaw05.VmDriven', WHERE WHAT IT READS IS OF BULK AT MOST 1048576: true; the input reads as it did. -/
def vmDrivenUptoRow : OpenClaim := { program := "ytlkgnfpjmafdkaa", sum := "0d75a36a20b707bf268d11116da0944922c8f9e2231a43723f3832c819c22489", func := "prelude/preludelaw05.VmDriven", spec := "vmDriven", unfollowed := true, recurses := true, apart := false, narrowed := true }
def VmDrivenUptoSaid : Prop := vmDrivenUptoRow.holds Try.pinned (OpenSpec.upto vmDrivenSpec)

/-- 'preludelaw05.VmEnds', WHERE WHAT IT READS IS OF BULK AT MOST 1048576: true; the input reads as it did. -/
def vmEndsUptoRow : OpenClaim := { program := "ytlkgnfpjmafdkaa", sum := "0d75a36a20b707bf268d11116da0944922c8f9e2231a43723f3832c819c22489", func := "prelude/preludelaw05.VmEnds", spec := "vmEnds", unfollowed := true, recurses := true, apart := false, narrowed := true }
def VmEndsUptoSaid : Prop := vmEndsUptoRow.holds Try.pinned (OpenSpec.upto vmEndsSpec)

end Rows
end Go.Proofs.Ytlkgnfpjmafdkaa
