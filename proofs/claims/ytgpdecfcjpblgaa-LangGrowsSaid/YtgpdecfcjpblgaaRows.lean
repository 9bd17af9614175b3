/-
  No cell of these rows narrows 'for every input' (looked for: loops, veiled, ifaces, maps, wideKeys, modest, calm, conditions, laid).
  DERIVED. THE GIVEN ROWS OF THIS SEAT. 9 by the template 'for every input the law returns true; each argument reads behind the call as it read before'; 0 by the template 'total and deterministic' (their statements: YtgpdecfcjpblgaaTotals.lean).
  GIVEN WITH THE SEED: the statements are not yours to turn. If you find one false, say at which input.
  Laid BY PROGRAM, IN A SANDBOX (cutbox-rows.mjs): the forced cells as the released guide's own fill.sh prints them over the translation 6797f3f2ce0e9aa4… (all of the seat's roots in one cut). By AI agents, Wed Nov 11 2026. No macro, syntax, notation, axiom, sorry.
-/
import Derived.Test.YtgpdecfcjpblgaaChecked
import GoSem.Claim
import GoSem.ClaimJoined
import GoSem.ClaimMapViews
import Derived.JoinedTies
import Derived.KernelRfl
namespace Go.Proofs.Ytgpdecfcjpblgaa
/- THE CELL 'sum', in the pinned program and in every row, IS THE sha256 OF THE DUMP (.gsa) THAT YtgpdecfcjpblgaaProg.lean LOADS. Nothing in Lean hashes anything: it is a label: what it is worth is what the hold of that sum in a sandbox is worth. -/
noncomputable def Try.pinned : Pinned := { name := "ytgpdecfcjpblgaa", sum := "6797f3f2ce0e9aa481b60d948e3ae94c781d8953cff6c62bcf7971ef09374657", checked := Try.checked }
namespace Rows
def none {H : Type} : Left H := { results := [], args := [] }

/-- 'preludelaw03.LangNames': WHATEVER THE INPUT: true; the input reads as it did. -/
def langNamesSpec : ChangeSpec := { name := "langNames", fn := fun _ => fun
  | [d1, d2] => { results := [.lit (.bool true)], args := [d1, d2] }
  | _ => none }
def langNamesRow : OpenClaim := { program := "ytgpdecfcjpblgaa", sum := "6797f3f2ce0e9aa481b60d948e3ae94c781d8953cff6c62bcf7971ef09374657", func := "prelude/preludelaw03.LangNames", spec := "langNames", apart := false }
def LangNamesSaid : Prop := langNamesRow.holds Try.pinned (OpenSpec.ofChange langNamesSpec)

/-- ITS FALSE NEIGHBOUR: 'it returns false'. Refute it at one input. -/
def langNamesWrong : ChangeSpec := { name := "langNames", fn := fun _ => fun
  | [d1, d2] => { results := [.lit (.bool false)], args := [d1, d2] }
  | _ => none }
def LangNamesWrongFalsely : Prop := langNamesRow.holds Try.pinned (OpenSpec.ofChange langNamesWrong)

/-- 'preludelaw03.LangPuts': WHATEVER THE INPUT: true; the input reads as it did. -/
def langPutsSpec : ChangeSpec := { name := "langPuts", fn := fun _ => fun
  | [d1, d2] => { results := [.lit (.bool true)], args := [d1, d2] }
  | _ => none }
def langPutsRow : OpenClaim := { program := "ytgpdecfcjpblgaa", sum := "6797f3f2ce0e9aa481b60d948e3ae94c781d8953cff6c62bcf7971ef09374657", func := "prelude/preludelaw03.LangPuts", spec := "langPuts", apart := false }
def LangPutsSaid : Prop := langPutsRow.holds Try.pinned (OpenSpec.ofChange langPutsSpec)

/-- ITS FALSE NEIGHBOUR: 'it returns false'. Refute it at one input. -/
def langPutsWrong : ChangeSpec := { name := "langPuts", fn := fun _ => fun
  | [d1, d2] => { results := [.lit (.bool false)], args := [d1, d2] }
  | _ => none }
def LangPutsWrongFalsely : Prop := langPutsRow.holds Try.pinned (OpenSpec.ofChange langPutsWrong)

/-- 'preludelaw03.LangGets': WHATEVER THE INPUT: true; the input reads as it did. -/
def langGetsSpec : ChangeSpec := { name := "langGets", fn := fun _ => fun
  | [d] => { results := [.lit (.bool true)], args := [d] }
  | _ => none }
def langGetsRow : OpenClaim := { program := "ytgpdecfcjpblgaa", sum := "6797f3f2ce0e9aa481b60d948e3ae94c781d8953cff6c62bcf7971ef09374657", func := "prelude/preludelaw03.LangGets", spec := "langGets", apart := false }
def LangGetsSaid : Prop := langGetsRow.holds Try.pinned (OpenSpec.ofChange langGetsSpec)

/-- ITS FALSE NEIGHBOUR: 'it returns false'. Refute it at one input. -/
def langGetsWrong : ChangeSpec := { name := "langGets", fn := fun _ => fun
  | [d] => { results := [.lit (.bool false)], args := [d] }
  | _ => none }
def LangGetsWrongFalsely : Prop := langGetsRow.holds Try.pinned (OpenSpec.ofChange langGetsWrong)

/-- 'preludelaw03.LangVerifies': WHATEVER THE INPUT: true; the input reads as it did. -/
def langVerifiesSpec : ChangeSpec := { name := "langVerifies", fn := fun _ => fun
  | [d] => { results := [.lit (.bool true)], args := [d] }
  | _ => none }
def langVerifiesRow : OpenClaim := { program := "ytgpdecfcjpblgaa", sum := "6797f3f2ce0e9aa481b60d948e3ae94c781d8953cff6c62bcf7971ef09374657", func := "prelude/preludelaw03.LangVerifies", spec := "langVerifies", apart := false }
def LangVerifiesSaid : Prop := langVerifiesRow.holds Try.pinned (OpenSpec.ofChange langVerifiesSpec)

/-- ITS FALSE NEIGHBOUR: 'it returns false'. Refute it at one input. -/
def langVerifiesWrong : ChangeSpec := { name := "langVerifies", fn := fun _ => fun
  | [d] => { results := [.lit (.bool false)], args := [d] }
  | _ => none }
def LangVerifiesWrongFalsely : Prop := langVerifiesRow.holds Try.pinned (OpenSpec.ofChange langVerifiesWrong)

/-- 'preludelaw03.LangChecks': WHATEVER THE INPUT: true; the input reads as it did. -/
def langChecksSpec : ChangeSpec := { name := "langChecks", fn := fun _ => fun
  | [d] => { results := [.lit (.bool true)], args := [d] }
  | _ => none }
def langChecksRow : OpenClaim := { program := "ytgpdecfcjpblgaa", sum := "6797f3f2ce0e9aa481b60d948e3ae94c781d8953cff6c62bcf7971ef09374657", func := "prelude/preludelaw03.LangChecks", spec := "langChecks", apart := false }
def LangChecksSaid : Prop := langChecksRow.holds Try.pinned (OpenSpec.ofChange langChecksSpec)

/-- ITS FALSE NEIGHBOUR: 'it returns false'. Refute it at one input. -/
def langChecksWrong : ChangeSpec := { name := "langChecks", fn := fun _ => fun
  | [d] => { results := [.lit (.bool false)], args := [d] }
  | _ => none }
def LangChecksWrongFalsely : Prop := langChecksRow.holds Try.pinned (OpenSpec.ofChange langChecksWrong)

/-- 'preludelaw03.LangWays': WHATEVER THE INPUT: true; the input reads as it did. -/
def langWaysSpec : ChangeSpec := { name := "langWays", fn := fun _ => fun
  | [d1, d2] => { results := [.lit (.bool true)], args := [d1, d2] }
  | _ => none }
def langWaysRow : OpenClaim := { program := "ytgpdecfcjpblgaa", sum := "6797f3f2ce0e9aa481b60d948e3ae94c781d8953cff6c62bcf7971ef09374657", func := "prelude/preludelaw03.LangWays", spec := "langWays", apart := false }
def LangWaysSaid : Prop := langWaysRow.holds Try.pinned (OpenSpec.ofChange langWaysSpec)

/-- ITS FALSE NEIGHBOUR: 'it returns false'. Refute it at one input. -/
def langWaysWrong : ChangeSpec := { name := "langWays", fn := fun _ => fun
  | [d1, d2] => { results := [.lit (.bool false)], args := [d1, d2] }
  | _ => none }
def LangWaysWrongFalsely : Prop := langWaysRow.holds Try.pinned (OpenSpec.ofChange langWaysWrong)

/-- 'preludelaw03.LangGrows': WHATEVER THE INPUT: true; the input reads as it did. -/
def langGrowsSpec : ChangeSpec := { name := "langGrows", fn := fun _ => fun
  | [d1, d2, d3] => { results := [.lit (.bool true)], args := [d1, d2, d3] }
  | _ => none }
def langGrowsRow : OpenClaim := { program := "ytgpdecfcjpblgaa", sum := "6797f3f2ce0e9aa481b60d948e3ae94c781d8953cff6c62bcf7971ef09374657", func := "prelude/preludelaw03.LangGrows", spec := "langGrows", apart := false }
def LangGrowsSaid : Prop := langGrowsRow.holds Try.pinned (OpenSpec.ofChange langGrowsSpec)

/-- ITS FALSE NEIGHBOUR: 'it returns false'. Refute it at one input. -/
def langGrowsWrong : ChangeSpec := { name := "langGrows", fn := fun _ => fun
  | [d1, d2, d3] => { results := [.lit (.bool false)], args := [d1, d2, d3] }
  | _ => none }
def LangGrowsWrongFalsely : Prop := langGrowsRow.holds Try.pinned (OpenSpec.ofChange langGrowsWrong)

/-- 'preludelaw03.LangOne': WHATEVER THE INPUT: true; the input reads as it did. -/
def langOneSpec : ChangeSpec := { name := "langOne", fn := fun _ => fun
  | [d1, d2, d3] => { results := [.lit (.bool true)], args := [d1, d2, d3] }
  | _ => none }
def langOneRow : OpenClaim := { program := "ytgpdecfcjpblgaa", sum := "6797f3f2ce0e9aa481b60d948e3ae94c781d8953cff6c62bcf7971ef09374657", func := "prelude/preludelaw03.LangOne", spec := "langOne", apart := false }
def LangOneSaid : Prop := langOneRow.holds Try.pinned (OpenSpec.ofChange langOneSpec)

/-- ITS FALSE NEIGHBOUR: 'it returns false'. Refute it at one input. -/
def langOneWrong : ChangeSpec := { name := "langOne", fn := fun _ => fun
  | [d1, d2, d3] => { results := [.lit (.bool false)], args := [d1, d2, d3] }
  | _ => none }
def LangOneWrongFalsely : Prop := langOneRow.holds Try.pinned (OpenSpec.ofChange langOneWrong)

/-- 'preludelaw03.LangBack': WHATEVER THE INPUT: true; the input reads as it did. -/
def langBackSpec : ChangeSpec := { name := "langBack", fn := fun _ => fun
  | [d1, d2] => { results := [.lit (.bool true)], args := [d1, d2] }
  | _ => none }
def langBackRow : OpenClaim := { program := "ytgpdecfcjpblgaa", sum := "6797f3f2ce0e9aa481b60d948e3ae94c781d8953cff6c62bcf7971ef09374657", func := "prelude/preludelaw03.LangBack", spec := "langBack", apart := false }
def LangBackSaid : Prop := langBackRow.holds Try.pinned (OpenSpec.ofChange langBackSpec)

/-- ITS FALSE NEIGHBOUR: 'it returns false'. Refute it at one input. -/
def langBackWrong : ChangeSpec := { name := "langBack", fn := fun _ => fun
  | [d1, d2] => { results := [.lit (.bool false)], args := [d1, d2] }
  | _ => none }
def LangBackWrongFalsely : Prop := langBackRow.holds Try.pinned (OpenSpec.ofChange langBackWrong)

/- THE SECOND FORM. 'bulk': how many values and letters a reading holds, each counted each time it is reached (what is shared counts as often as it is met; a slice's spare places count too). A statement '..UptoSaid' is the law's where the arguments, and the package variables that the reading takes, are together of bulk at most 1048576: NARROWER than '..Said'. Prove '..Said' where nothing that the law and all that it calls make is longer than what came in: it says more and counts as full. Else prove '..UptoSaid'. A law counts once. -/
mutual
def uptoBulk {H : Type} : DataW H → Nat
  | .lit (.string bytes) => bytes.length + 1
  | .lit _ => 1
  | .nil => 1
  | .ptr d => uptoBulk d + 1
  | .slice elems spare => uptoBulkAll elems + uptoBulkAll spare + 1
  | .agg parts => uptoBulkAll parts + 1
  | .iface _ d => uptoBulk d + 1
  | .map entries => uptoBulkEntries entries + 1
  | .held _ => 1
def uptoBulkAll {H : Type} : List (DataW H) → Nat
  | [] => 0
  | d :: r => uptoBulk d + uptoBulkAll r
def uptoBulkEntries {H : Type} : List (Lit × DataW H) → Nat
  | [] => 0
  | x :: r => uptoBulkEntry x + uptoBulkEntries r
def uptoBulkEntry {H : Type} : Lit × DataW H → Nat
  | (.string bytes, d) => bytes.length + uptoBulk d + 1
  | (_, d) => uptoBulk d + 1
 end
def uptoSmall : (H : Type) → List (DataW H) → Bool := fun _ ds => decide (uptoBulkAll ds ≤ 1048576)
def OpenSpec.upto (s : _root_.Go.ChangeSpec) : _root_.Go.OpenSpec := { _root_.Go.OpenSpec.ofChange s with cond := some uptoSmall }

/-- 'preludelaw03.LangNames', WHERE WHAT IT READS IS OF BULK AT MOST 1048576: true; the input reads as it did. -/
def langNamesUptoRow : OpenClaim := { program := "ytgpdecfcjpblgaa", sum := "6797f3f2ce0e9aa481b60d948e3ae94c781d8953cff6c62bcf7971ef09374657", func := "prelude/preludelaw03.LangNames", spec := "langNames", apart := false, narrowed := true }
def LangNamesUptoSaid : Prop := langNamesUptoRow.holds Try.pinned (OpenSpec.upto langNamesSpec)

/-- 'preludelaw03.LangPuts', WHERE WHAT IT READS IS OF BULK AT MOST 1048576: true; the input reads as it did. -/
def langPutsUptoRow : OpenClaim := { program := "ytgpdecfcjpblgaa", sum := "6797f3f2ce0e9aa481b60d948e3ae94c781d8953cff6c62bcf7971ef09374657", func := "prelude/preludelaw03.LangPuts", spec := "langPuts", apart := false, narrowed := true }
def LangPutsUptoSaid : Prop := langPutsUptoRow.holds Try.pinned (OpenSpec.upto langPutsSpec)

/-- 'preludelaw03.LangGets', WHERE WHAT IT READS IS OF BULK AT MOST 1048576: true; the input reads as it did. -/
def langGetsUptoRow : OpenClaim := { program := "ytgpdecfcjpblgaa", sum := "6797f3f2ce0e9aa481b60d948e3ae94c781d8953cff6c62bcf7971ef09374657", func := "prelude/preludelaw03.LangGets", spec := "langGets", apart := false, narrowed := true }
def LangGetsUptoSaid : Prop := langGetsUptoRow.holds Try.pinned (OpenSpec.upto langGetsSpec)

/-- 'preludelaw03.LangVerifies', WHERE WHAT IT READS IS OF BULK AT MOST 1048576: true; the input reads as it did. -/
def langVerifiesUptoRow : OpenClaim := { program := "ytgpdecfcjpblgaa", sum := "6797f3f2ce0e9aa481b60d948e3ae94c781d8953cff6c62bcf7971ef09374657", func := "prelude/preludelaw03.LangVerifies", spec := "langVerifies", apart := false, narrowed := true }
def LangVerifiesUptoSaid : Prop := langVerifiesUptoRow.holds Try.pinned (OpenSpec.upto langVerifiesSpec)

/-- 'preludelaw03.LangChecks', WHERE WHAT IT READS IS OF BULK AT MOST 1048576: true; the input reads as it did. -/
def langChecksUptoRow : OpenClaim := { program := "ytgpdecfcjpblgaa", sum := "6797f3f2ce0e9aa481b60d948e3ae94c781d8953cff6c62bcf7971ef09374657", func := "prelude/preludelaw03.LangChecks", spec := "langChecks", apart := false, narrowed := true }
def LangChecksUptoSaid : Prop := langChecksUptoRow.holds Try.pinned (OpenSpec.upto langChecksSpec)

/-- 'preludelaw03.LangWays', WHERE WHAT IT READS IS OF BULK AT MOST 1048576: true; the input reads as it did. -/
def langWaysUptoRow : OpenClaim := { program := "ytgpdecfcjpblgaa", sum := "6797f3f2ce0e9aa481b60d948e3ae94c781d8953cff6c62bcf7971ef09374657", func := "prelude/preludelaw03.LangWays", spec := "langWays", apart := false, narrowed := true }
def LangWaysUptoSaid : Prop := langWaysUptoRow.holds Try.pinned (OpenSpec.upto langWaysSpec)

/-- 'preludelaw03.LangGrows', WHERE WHAT IT READS IS OF BULK AT MOST 1048576: true; the input reads as it did. -/
def langGrowsUptoRow : OpenClaim := { program := "ytgpdecfcjpblgaa", sum := "6797f3f2ce0e9aa481b60d948e3ae94c781d8953cff6c62bcf7971ef09374657", func := "prelude/preludelaw03.LangGrows", spec := "langGrows", apart := false, narrowed := true }
def LangGrowsUptoSaid : Prop := langGrowsUptoRow.holds Try.pinned (OpenSpec.upto langGrowsSpec)

/-- 'preludelaw03.LangOne', WHERE WHAT IT READS IS OF BULK AT MOST 1048576: true; the input reads as it did. -/
def langOneUptoRow : OpenClaim := { program := "ytgpdecfcjpblgaa", sum := "6797f3f2ce0e9aa481b60d948e3ae94c781d8953cff6c62bcf7971ef09374657", func := "prelude/preludelaw03.LangOne", spec := "langOne", apart := false, narrowed := true }
def LangOneUptoSaid : Prop := langOneUptoRow.holds Try.pinned (OpenSpec.upto langOneSpec)

/-- 'preludelaw03.LangBack', WHERE WHAT IT READS IS OF BULK AT MOST 1048576: true; the input reads as it did. -/
def langBackUptoRow : OpenClaim := { program := "ytgpdecfcjpblgaa", sum := "6797f3f2ce0e9aa481b60d948e3ae94c781d8953cff6c62bcf7971ef09374657", func := "prelude/preludelaw03.LangBack", spec := "langBack", apart := false, narrowed := true }
def LangBackUptoSaid : Prop := langBackUptoRow.holds Try.pinned (OpenSpec.upto langBackSpec)

end Rows
end Go.Proofs.Ytgpdecfcjpblgaa
