/- Tab: the table of the check sum, as the rows list it. -/
import Derived.Test.YtgpdecfcjpblgaaDoorCards
import Derived.Test.YtgpdecfcjpblgaaDoorTie
import Derived.Test.YtgpdecfcjpblgaaDoorRow
import Derived.Test.YtgpdecfcjpblgaaDoorSum
set_option linter.unusedVariables false
set_option linter.unusedSimpArgs false
namespace Go.Proofs.YtgpdecfcjpblgaaDoor
open Go Go.Sh Go.Pl Go.Row Go.ChangeShapes Go.WideShapes Go.ChangeAt Go.RowKit
theorem own : ownKnob Tryd.prog.godebug = none := by kernel_rfl
theorem laidOut : laidOutB Tryd.prog = true := by kernel_rfl
theorem gTab : Tryd.prog.globalNamed "prelude/codec.halves" = some 0 := by kernel_rfl
theorem gTabType : (Tryd.prog.globals[0]?).map (·.type) = some 94 := by kernel_rfl
theorem cellsTab : Tryd.prog.cellsOf 94 = 16 := by kernel_rfl
theorem cellsU32 : Tryd.prog.cellsOf 30 = 1 := by kernel_rfl
theorem cellsU8 : Tryd.prog.cellsOf 5 = 1 := by kernel_rfl
theorem bytesU8 : Tryd.prog.bytesOf 5 = 1 := by kernel_rfl
def halvesL : List Int := [0, 498536548, 997073096, 651767980, 1994146192, 1802195444, 1303535960, 1342533948, 3988292384, 4027552580, 3604390888, 3412177804, 2607071920, 2262029012, 2685067896, 3183342108]
theorem halvesL_T : ∀ i : Fin 16, halvesL.getD i.val 0 = ((Crc.T i.val).toNat : Int) := by decide
theorem tab_of {W : World} (h : laidMetH Tryd.prog [("prelude/codec.halves", Rows.laid_prelude_codec_halves)] W) : Tab W := fun i hi => by
  have ht : Lib.TabIs Tryd.prog W "prelude/codec.halves" .u32 halvesL :=
    Lib.tabIs_of_head (rest := []) gTab gTabType Tryd.underlying94 Tryd.underlying30 cellsU32 cellsTab h
  have := ht.cell gTab i (by simpa [halvesL] using hi)
  rw [this, halvesL_T ⟨i, hi⟩]
/-- A world for a witness: the settled one, the table holding what its initialiser lays. -/
noncomputable def laidWorld (os : Os) : World :=
  { World.holding Tryd.prog os ⟨#[], #[], []⟩ with heap := (World.holding Tryd.prog os ⟨#[], #[], []⟩).heap.modify 0 fun
      | .cells _ t frozen => .cells #[.int .u32 0, .int .u32 498536548, .int .u32 997073096, .int .u32 651767980, .int .u32 1994146192, .int .u32 1802195444, .int .u32 1303535960, .int .u32 1342533948, .int .u32 3988292384, .int .u32 4027552580, .int .u32 3604390888, .int .u32 3412177804, .int .u32 2607071920, .int .u32 2262029012, .int .u32 2685067896, .int .u32 3183342108] t frozen
      | o => o }
end Go.Proofs.YtgpdecfcjpblgaaDoor
