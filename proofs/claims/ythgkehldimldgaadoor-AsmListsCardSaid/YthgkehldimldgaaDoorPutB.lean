/- PutB: the document's Written; the law LangPuts. -/
import Derived.Test.YthgkehldimldgaaDoorPut
set_option linter.unusedVariables false
set_option linter.unusedSimpArgs false
namespace Go.Proofs.YthgkehldimldgaaDoor
open Go Go.Sh Go.Pl Go.RowKit Go.Lang Go.Num Go.Gt
end Go.Proofs.YthgkehldimldgaaDoor
namespace Go.Proofs.YthgkehldimldgaaDoor
open Go Go.Sh Go.Pl Go.RowKit Go.Lang Go.Num Go.Gt
abbrev insG : G := .sl 16 (.st (.pair (.int .i64) (.pair (.int .i64) .unit)))
/-- A list of instructions that came in. -/
def codeL (l : List (Int × Int × Unit)) : List (Int × Int) := l.map fun x => (x.1, x.2.1)
def code (ms : Mo insG) : List (Int × Int) := codeL ms
theorem codeL_at {l : List (Int × Int × Unit)} {i : Nat} {x : Int × Int} (h : (codeL l)[i]? = some x) : ∃ u, l[i]? = some (x.1, x.2, u) := by
  unfold codeL at h
  rw [List.getElem?_map] at h
  cases hm : l[i]? with
  | none => rw [hm] at h; cases h
  | some m => rw [hm] at h; cases h; exact ⟨m.2.2, rfl⟩
theorem codeL_len (l : List (Int × Int × Unit)) : (codeL l).length = l.length := by simp [codeL]
theorem rep_code {R : Nat} {w : World} {s : Slc} {ms : Mo insG} (h : Gt.Rep R w insG [.slice s.a s.l s.c] ms) : RdC w s (code ms) ∧ I64 (code ms) ∧ (s.a = none → s.l = 0 ∧ s.c = 0) ∧ s.c * 16 ≤ R := by
  obtain ⟨s', he, h1, h2, h3, h4, h5⟩ := h
  have he' : s = s' := by
    cases s; cases s'; simpa using he
  subst he'
  have key : ∀ (i : Nat) (x : Int × Int), (code ms)[i]? = some x → ∃ ad, s.a = some ad ∧ w.cell? (ad.add (i * 2)) = some (.int .i64 x.1) ∧ w.cell? ((ad.add (i * 2)).add 1) = some (.int .i64 x.2) ∧ (Lit.int .i64 x.1).wf = true ∧ (Lit.int .i64 x.2).wf = true := fun i x hx => by
    obtain ⟨u, hm⟩ := codeL_at hx
    obtain ⟨ad, es, g1, g2, g3, g4⟩ := h5 i (x.1, x.2, u) hm
    obtain ⟨c1, c2, rfl, ⟨rfl, q1⟩, c3, c4, rfl, ⟨rfl, q2⟩, rfl⟩ := g4
    have e0 := g3 0 (by decide)
    have e1 := g3 1 (by decide)
    exact ⟨ad, g1, (by simpa using e0 : w.cell? (ad.add (i * (G.sz (.st (.pair (.int .i64) (.pair (.int .i64) .unit)))))) = _), (by simpa using e1 : w.cell? ((ad.add (i * (G.sz (.st (.pair (.int .i64) (.pair (.int .i64) .unit)))))).add 1) = _), q1, q2⟩
  refine ⟨⟨by rw [h1]; exact (codeL_len ms).symm, h2, fun i x hx => ?_⟩, fun x hx => ?_, h3, h4⟩
  · obtain ⟨ad, g1, g2, g3, _⟩ := key i x hx
    exact ⟨ad, g1, g2, g3⟩
  · obtain ⟨i, hi⟩ := List.getElem?_of_mem hx
    obtain ⟨ad, _, _, _, g4, g5⟩ := key i x hi
    simp [Lit.wf, IntKind.min, IntKind.max, IntKind.signed, IntKind.bits] at g4 g5
    omega
end Go.Proofs.YthgkehldimldgaaDoor
