/- RefD: the document's looking over: Takes, argument, Next. -/
import Derived.Test.YtlnhecbgjjglfaaGreatSpell
import Derived.Test.YtlnhecbgjjglfaaGreatLookB
set_option linter.unusedVariables false
set_option linter.unusedSimpArgs false
namespace Go.Lang
/-- Where the document says that an instruction goes to. -/
def nx (x : Ins) (i : Nat) : List Int := if x.1 = 0 ∨ x.1 = 36 then [] else if x.1 = 30 then [x.2] else if x.1 = 31 then [(i : Int) + 1, x.2] else [(i : Int) + 1]
theorem nx_wy (x : Ins) (i : Nat) : nx x i = wy x i ∨ ∃ a b, wy x i = [a, b] ∧ nx x i = [b, a] := by
  unfold nx wy
  split
  · exact .inl rfl
  · split
    · exact .inl rfl
    · split
      · exact .inr ⟨_, _, rfl, rfl⟩
      · exact .inl rfl
theorem putAll_nx (v : Int) (d : List Int) (x : Ins) (i : Nat) : putAll v (nx x i) d = putAll v (wy x i) d := by
  rcases nx_wy x i with h | ⟨a, b, h1, h2⟩
  · rw [h]
  · rw [h1, h2, putAll_swap]
theorem most1_nx (e : List Int) (x : Ins) (i : Nat) : most1 e (nx x i) 0 = most1 e (wy x i) 0 := by
  rcases nx_wy x i with h | ⟨a, b, h1, h2⟩
  · rw [h]
  · rw [h1, h2]
    simp only [most1]
    omega
theorem nx_mem {x : Ins} {i : Nat} {t : Int} (h : t ∈ nx x i) : t ∈ wy x i := by
  rcases nx_wy x i with h' | ⟨a, b, h1, h2⟩
  · rwa [h'] at h
  · rw [h2] at h; rw [h1]; simp at h ⊢; omega
end Go.Lang
namespace Go.Proofs.YtlnhecbgjjglfaaGreat
open Go Go.Sh Go.Pl Go.RowKit Go.Lang Go.Names
end Go.Proofs.YtlnhecbgjjglfaaGreat
