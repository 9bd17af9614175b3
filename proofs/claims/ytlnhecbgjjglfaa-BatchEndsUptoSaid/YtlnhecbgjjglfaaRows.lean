/-
  No cell of these rows narrows 'for every input' (looked for: loops, veiled, ifaces, maps, wideKeys, modest, calm, conditions, laid).
  DERIVED. THE GIVEN ROWS OF THIS SEAT. 7 by the template 'for every input the law returns true; each argument reads behind the call as it read before'; 0 by the template 'total and deterministic' (their statements: YtlnhecbgjjglfaaTotals.lean).
  GIVEN WITH THE SEED: the statements are not yours to turn. If you find one false, say at which input.
  Laid BY PROGRAM, IN A SANDBOX (cutbox-rows.mjs): the forced cells as the released guide's own fill.sh prints them over the translation 0c4f699df276b022… (all of the seat's roots in one cut). By AI agents, Wed Nov 11 2026. No macro, syntax, notation, axiom, sorry.
-/
import Derived.Test.YtlnhecbgjjglfaaChecked
import GoSem.Claim
import GoSem.ClaimJoined
import GoSem.ClaimMapViews
import Derived.JoinedTies
import Derived.KernelRfl
namespace Go.Proofs.Ytlnhecbgjjglfaa
/- THE CELL 'sum', in the pinned program and in every row, IS THE sha256 OF THE DUMP (.gsa) THAT YtlnhecbgjjglfaaProg.lean LOADS. Nothing in Lean hashes anything: it is a label: what it is worth is what the hold of that sum in a sandbox is worth. -/
noncomputable def Try.pinned : Pinned := { name := "ytlnhecbgjjglfaa", sum := "0c4f699df276b0221529d1b764420984e00d93af6e9bced761940bcd408d26cc", checked := Try.checked }
namespace Rows
def none {H : Type} : Left H := { results := [], args := [] }

/-- 'preludelaw06.BatchWeighs': WHATEVER THE INPUT: true; the input reads as it did. -/
def batchWeighsSpec : ChangeSpec := { name := "batchWeighs", fn := fun _ => fun
  | [d] => { results := [.lit (.bool true)], args := [d] }
  | _ => none }
def batchWeighsRow : OpenClaim := { program := "ytlnhecbgjjglfaa", sum := "0c4f699df276b0221529d1b764420984e00d93af6e9bced761940bcd408d26cc", func := "prelude/preludelaw06.BatchWeighs", spec := "batchWeighs", apart := false }
def BatchWeighsSaid : Prop := batchWeighsRow.holds Try.pinned (OpenSpec.ofChange batchWeighsSpec)

/-- ITS FALSE NEIGHBOUR: 'it returns false'. Refute it at one input. -/
def batchWeighsWrong : ChangeSpec := { name := "batchWeighs", fn := fun _ => fun
  | [d] => { results := [.lit (.bool false)], args := [d] }
  | _ => none }
def BatchWeighsWrongFalsely : Prop := batchWeighsRow.holds Try.pinned (OpenSpec.ofChange batchWeighsWrong)

/-- 'preludelaw06.BatchChecks': WHATEVER THE INPUT: true; the input reads as it did. -/
def batchChecksSpec : ChangeSpec := { name := "batchChecks", fn := fun _ => fun
  | [d1, d2] => { results := [.lit (.bool true)], args := [d1, d2] }
  | _ => none }
def batchChecksRow : OpenClaim := { program := "ytlnhecbgjjglfaa", sum := "0c4f699df276b0221529d1b764420984e00d93af6e9bced761940bcd408d26cc", func := "prelude/preludelaw06.BatchChecks", spec := "batchChecks", unfollowed := true, recurses := true, apart := false }
def BatchChecksSaid : Prop := batchChecksRow.holds Try.pinned (OpenSpec.ofChange batchChecksSpec)

/-- ITS FALSE NEIGHBOUR: 'it returns false'. Refute it at one input. -/
def batchChecksWrong : ChangeSpec := { name := "batchChecks", fn := fun _ => fun
  | [d1, d2] => { results := [.lit (.bool false)], args := [d1, d2] }
  | _ => none }
def BatchChecksWrongFalsely : Prop := batchChecksRow.holds Try.pinned (OpenSpec.ofChange batchChecksWrong)

/-- 'preludelaw06.BatchEncodes': WHATEVER THE INPUT: true; the input reads as it did. -/
def batchEncodesSpec : ChangeSpec := { name := "batchEncodes", fn := fun _ => fun
  | [d] => { results := [.lit (.bool true)], args := [d] }
  | _ => none }
def batchEncodesRow : OpenClaim := { program := "ytlnhecbgjjglfaa", sum := "0c4f699df276b0221529d1b764420984e00d93af6e9bced761940bcd408d26cc", func := "prelude/preludelaw06.BatchEncodes", spec := "batchEncodes", unfollowed := true, recurses := true, apart := false }
def BatchEncodesSaid : Prop := batchEncodesRow.holds Try.pinned (OpenSpec.ofChange batchEncodesSpec)

/-- ITS FALSE NEIGHBOUR: 'it returns false'. Refute it at one input. -/
def batchEncodesWrong : ChangeSpec := { name := "batchEncodes", fn := fun _ => fun
  | [d] => { results := [.lit (.bool false)], args := [d] }
  | _ => none }
def BatchEncodesWrongFalsely : Prop := batchEncodesRow.holds Try.pinned (OpenSpec.ofChange batchEncodesWrong)

/-- 'preludelaw06.BatchDecodes': WHATEVER THE INPUT: true; the input reads as it did. -/
def batchDecodesSpec : ChangeSpec := { name := "batchDecodes", fn := fun _ => fun
  | [d] => { results := [.lit (.bool true)], args := [d] }
  | _ => none }
def batchDecodesRow : OpenClaim := { program := "ytlnhecbgjjglfaa", sum := "0c4f699df276b0221529d1b764420984e00d93af6e9bced761940bcd408d26cc", func := "prelude/preludelaw06.BatchDecodes", spec := "batchDecodes", unfollowed := true, recurses := true, apart := false }
def BatchDecodesSaid : Prop := batchDecodesRow.holds Try.pinned (OpenSpec.ofChange batchDecodesSpec)

/-- ITS FALSE NEIGHBOUR: 'it returns false'. Refute it at one input. -/
def batchDecodesWrong : ChangeSpec := { name := "batchDecodes", fn := fun _ => fun
  | [d] => { results := [.lit (.bool false)], args := [d] }
  | _ => none }
def BatchDecodesWrongFalsely : Prop := batchDecodesRow.holds Try.pinned (OpenSpec.ofChange batchDecodesWrong)

/-- 'preludelaw06.BatchBack': WHATEVER THE INPUT: true; the input reads as it did. -/
def batchBackSpec : ChangeSpec := { name := "batchBack", fn := fun _ => fun
  | [d1, d2] => { results := [.lit (.bool true)], args := [d1, d2] }
  | _ => none }
def batchBackRow : OpenClaim := { program := "ytlnhecbgjjglfaa", sum := "0c4f699df276b0221529d1b764420984e00d93af6e9bced761940bcd408d26cc", func := "prelude/preludelaw06.BatchBack", spec := "batchBack", unfollowed := true, recurses := true, apart := false }
def BatchBackSaid : Prop := batchBackRow.holds Try.pinned (OpenSpec.ofChange batchBackSpec)

/-- ITS FALSE NEIGHBOUR: 'it returns false'. Refute it at one input. -/
def batchBackWrong : ChangeSpec := { name := "batchBack", fn := fun _ => fun
  | [d1, d2] => { results := [.lit (.bool false)], args := [d1, d2] }
  | _ => none }
def BatchBackWrongFalsely : Prop := batchBackRow.holds Try.pinned (OpenSpec.ofChange batchBackWrong)

/-- 'preludelaw06.BatchEnds': WHATEVER THE INPUT: true; the input reads as it did. -/
def batchEndsSpec : ChangeSpec := { name := "batchEnds", fn := fun _ => fun
  | [d1, d2, d3, d4] => { results := [.lit (.bool true)], args := [d1, d2, d3, d4] }
  | _ => none }
def batchEndsRow : OpenClaim := { program := "ytlnhecbgjjglfaa", sum := "0c4f699df276b0221529d1b764420984e00d93af6e9bced761940bcd408d26cc", func := "prelude/preludelaw06.BatchEnds", spec := "batchEnds", unfollowed := true, recurses := true, apart := false }
def BatchEndsSaid : Prop := batchEndsRow.holds Try.pinned (OpenSpec.ofChange batchEndsSpec)

/-- ITS FALSE NEIGHBOUR: 'it returns false'. Refute it at one input. -/
def batchEndsWrong : ChangeSpec := { name := "batchEnds", fn := fun _ => fun
  | [d1, d2, d3, d4] => { results := [.lit (.bool false)], args := [d1, d2, d3, d4] }
  | _ => none }
def BatchEndsWrongFalsely : Prop := batchEndsRow.holds Try.pinned (OpenSpec.ofChange batchEndsWrong)

/-- 'preludelaw06.BatchOne': WHATEVER THE INPUT: true; the input reads as it did. -/
def batchOneSpec : ChangeSpec := { name := "batchOne", fn := fun _ => fun
  | [d1, d2] => { results := [.lit (.bool true)], args := [d1, d2] }
  | _ => none }
def batchOneRow : OpenClaim := { program := "ytlnhecbgjjglfaa", sum := "0c4f699df276b0221529d1b764420984e00d93af6e9bced761940bcd408d26cc", func := "prelude/preludelaw06.BatchOne", spec := "batchOne", unfollowed := true, recurses := true, apart := false }
def BatchOneSaid : Prop := batchOneRow.holds Try.pinned (OpenSpec.ofChange batchOneSpec)

/-- ITS FALSE NEIGHBOUR: 'it returns false'. Refute it at one input. -/
def batchOneWrong : ChangeSpec := { name := "batchOne", fn := fun _ => fun
  | [d1, d2] => { results := [.lit (.bool false)], args := [d1, d2] }
  | _ => none }
def BatchOneWrongFalsely : Prop := batchOneRow.holds Try.pinned (OpenSpec.ofChange batchOneWrong)

/- THE SECOND FORM. 'bulk': how many values and letters a reading holds, each counted each time it is reached (what is shared counts as often as it is met; a slice's spare places count too). A statement '..UptoSaid' is the law's where the arguments, and the package variables that the reading takes, are together of bulk at most 1048576: NARROWER than '..Said'. Prove '..Said' where nothing that the law and all that it calls make is longer than what came in: it says more and counts as full. Else prove '..UptoSaid'. A law counts once. -/
mutual
def uptoBulk {H : Type} : DataW H → Nat
  | .lit (.string bytes) => bytes.length + 1
  | .lit _ => 1
  | .nil => 1
  | .ptr d => uptoBulk d + 1
  | .slice elems spare => uptoBulkAll elems + uptoBulkAll spare + 1
  | .agg parts => uptoBulkAll parts + 1
  | .iface _ d => uptoBulk d + 1
  | .map entries => uptoBulkEntries entries + 1
  | .held _ => 1
def uptoBulkAll {H : Type} : List (DataW H) → Nat
  | [] => 0
  | d :: r => uptoBulk d + uptoBulkAll r
def uptoBulkEntries {H : Type} : List (Lit × DataW H) → Nat
  | [] => 0
  | x :: r => uptoBulkEntry x + uptoBulkEntries r
def uptoBulkEntry {H : Type} : Lit × DataW H → Nat
  | (.string bytes, d) => bytes.length + uptoBulk d + 1
  | (_, d) => uptoBulk d + 1
 end
def uptoSmall : (H : Type) → List (DataW H) → Bool := fun _ ds => decide (uptoBulkAll ds ≤ 1048576)
def OpenSpec.upto (s : _root_.Go.ChangeSpec) : _root_.Go.OpenSpec := { _root_.Go.OpenSpec.ofChange s with cond := some uptoSmall }

/-- 'preludelaw06.BatchWeighs', WHERE WHAT IT READS IS OF BULK AT MOST 1048576: true; the input reads as it did. -/
def batchWeighsUptoRow : OpenClaim := { program := "ytlnhecbgjjglfaa", sum := "0c4f699df276b0221529d1b764420984e00d93af6e9bced761940bcd408d26cc", func := "prelude/preludelaw06.BatchWeighs", spec := "batchWeighs", apart := false, narrowed := true }
def BatchWeighsUptoSaid : Prop := batchWeighsUptoRow.holds Try.pinned (OpenSpec.upto batchWeighsSpec)

/-- 'preludelaw06.BatchChecks', WHERE WHAT IT READS IS OF BULK AT MOST 1048576: true; the input reads as it did. -/
def batchChecksUptoRow : OpenClaim := { program := "ytlnhecbgjjglfaa", sum := "0c4f699df276b0221529d1b764420984e00d93af6e9bced761940bcd408d26cc", func := "prelude/preludelaw06.BatchChecks", spec := "batchChecks", unfollowed := true, recurses := true, apart := false, narrowed := true }
def BatchChecksUptoSaid : Prop := batchChecksUptoRow.holds Try.pinned (OpenSpec.upto batchChecksSpec)

/-- 'preludelaw06.BatchEncodes', WHERE WHAT IT READS IS OF BULK AT MOST 1048576: true; the input reads as it did. -/
def batchEncodesUptoRow : OpenClaim := { program := "ytlnhecbgjjglfaa", sum := "0c4f699df276b0221529d1b764420984e00d93af6e9bced761940bcd408d26cc", func := "prelude/preludelaw06.BatchEncodes", spec := "batchEncodes", unfollowed := true, recurses := true, apart := false, narrowed := true }
def BatchEncodesUptoSaid : Prop := batchEncodesUptoRow.holds Try.pinned (OpenSpec.upto batchEncodesSpec)

/-- 'preludelaw06.BatchDecodes', WHERE WHAT IT READS IS OF BULK AT MOST 1048576: true; the input reads as it did. -/
def batchDecodesUptoRow : OpenClaim := { program := "ytlnhecbgjjglfaa", sum := "0c4f699df276b0221529d1b764420984e00d93af6e9bced761940bcd408d26cc", func := "prelude/preludelaw06.BatchDecodes", spec := "batchDecodes", unfollowed := true, recurses := true, apart := false, narrowed := true }
def BatchDecodesUptoSaid : Prop := batchDecodesUptoRow.holds Try.pinned (OpenSpec.upto batchDecodesSpec)

/-- 'preludelaw06.BatchBack', WHERE WHAT IT READS IS OF BULK AT MOST 1048576: true; the input reads as it did. -/
def batchBackUptoRow : OpenClaim := { program := "ytlnhecbgjjglfaa", sum := "0c4f699df276b0221529d1b764420984e00d93af6e9bced761940bcd408d26cc", func := "prelude/preludelaw06.BatchBack", spec := "batchBack", unfollowed := true, recurses := true, apart := false, narrowed := true }
def BatchBackUptoSaid : Prop := batchBackUptoRow.holds Try.pinned (OpenSpec.upto batchBackSpec)

/-- 'preludelaw06.BatchEnds', WHERE WHAT IT READS IS OF BULK AT MOST 1048576: true; the input reads as it did. -/
def batchEndsUptoRow : OpenClaim := { program := "ytlnhecbgjjglfaa", sum := "0c4f699df276b0221529d1b764420984e00d93af6e9bced761940bcd408d26cc", func := "prelude/preludelaw06.BatchEnds", spec := "batchEnds", unfollowed := true, recurses := true, apart := false, narrowed := true }
def BatchEndsUptoSaid : Prop := batchEndsUptoRow.holds Try.pinned (OpenSpec.upto batchEndsSpec)

/-- 'preludelaw06.BatchOne', WHERE WHAT IT READS IS OF BULK AT MOST 1048576: true; the input reads as it did. -/
def batchOneUptoRow : OpenClaim := { program := "ytlnhecbgjjglfaa", sum := "0c4f699df276b0221529d1b764420984e00d93af6e9bced761940bcd408d26cc", func := "prelude/preludelaw06.BatchOne", spec := "batchOne", unfollowed := true, recurses := true, apart := false, narrowed := true }
def BatchOneUptoSaid : Prop := batchOneUptoRow.holds Try.pinned (OpenSpec.upto batchOneSpec)

end Rows
end Go.Proofs.Ytlnhecbgjjglfaa
