/- GetL: the law LangGets. -/
import Derived.Test.YtgpdecfcjpblgaaDoorGetM
import Derived.Test.YtgpdecfcjpblgaaDoorGt
set_option linter.unusedVariables false
set_option linter.unusedSimpArgs false
namespace Go.Lang
open Go.Num
theorem rUpto_le {bs : List UInt8} {at_ most : Nat} {e : Int} : at_ ≤ (rUpto bs at_ e most).2.1 := by
  unfold rUpto
  split
  · exact Nat.le_refl _
  · rcases dnum 0 0 (bs.drop at_) with ⟨n, k, d⟩
    simp only
    split
    · exact Nat.le_refl _
    · split
      · exact Nat.le_refl _
      · simp only; omega
end Go.Lang
namespace Go.Proofs.YtgpdecfcjpblgaaDoor
open Go Go.Sh Go.Pl Go.RowKit Go.Lang Go.Num Go.Gt
theorem getN_few {bs : List UInt8} : ∀ {k at_ : Nat} {e : Int} {l : List (Int × Int)}, (getN bs k at_ e l).1.length ≤ l.length + k
  | 0, at_, e, l => Nat.le_refl _
  | k + 1, at_, e, l => by
    simp only [getN]
    split
    · have := getN_few (bs := bs) (k := k) (at_ := (getI bs at_ e).2.1) (e := (getI bs at_ e).2.2) (l := l ++ [(getI bs at_ e).1])
      rw [List.length_append, List.length_cons, List.length_nil] at this
      omega
    · simp
theorem rdT_few {bs : List UInt8} {at_ : Nat} {e : Int} : (rdT bs at_ e).1.l.length ≤ 256 := by
  have key : ∀ (p : Nat × Nat × Int) (q : Nat × Nat × Int) (g : List (Int × Int) × Nat × Int) (a b c d : Int), p.1 ≤ 256 → g = getN bs p.1 p.2.1 p.2.2 [] → (if g.2.2 = 0 then (⟨a, b, c, d, g.1⟩ : Pg) else ⟨0, 0, 0, 0, []⟩).l.length ≤ 256 := fun p q g a b c d hp hg => by
    split
    · have := getN_few (bs := bs) (k := p.1) (at_ := p.2.1) (e := p.2.2) (l := [])
      rw [← hg] at this
      simp only [List.length_nil] at this
      show g.1.length ≤ 256
      omega
    · simp
  exact key _ (0, 0, 0) _ _ _ _ _ rUpto_most rfl
end Go.Proofs.YtgpdecfcjpblgaaDoor
