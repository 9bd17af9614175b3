/- Long: the longest way: lang.Longest, the document's Longest. -/
import Derived.Test.YthgkehldimldgaaDoorRefE
set_option linter.unusedVariables false
set_option linter.unusedSimpArgs false
namespace Go.Lang
theorem depths_ok0 {a b c d : Int} {l : List Ins} (h : (depths a b c d l).2 = 0) : okP a b c d l.length = true ∧ chk a b c d l.length l 0 = 0 := by
  unfold depths at h
  split at h
  · simp at h
  · rename_i h1
    split at h
    · rename_i h2; exact absurd h h2
    · rename_i h2
      exact ⟨by simpa using h1, by omega⟩
theorem most1_cons (e : List Int) (j : Int) (r : List Int) (m : Int) : most1 e (j :: r) m = most1 e r (max m (e[j.toNat]?.getD 0)) := rfl
theorem walkL_succ {c : List Ins} {k : Nat} {e : List Int} (hk : k < c.length) : walkL c (k + 1) e = walkL c k (e.set k (most1 e (wy c[k] k) 0 + 1)) := by
  simp only [walkL]
  rw [List.getElem?_eq_getElem hk]
end Go.Lang
namespace Go.Proofs.YthgkehldimldgaaDoor
open Go Go.Sh Go.Pl Go.RowKit Go.Lang Go.Names
theorem set_get_ne {l : List Int} {i j : Nat} {v : Int} (h : i ≠ j) : (l.set i v)[j]? = l[j]? := List.getElem?_set_ne h
end Go.Proofs.YthgkehldimldgaaDoor
