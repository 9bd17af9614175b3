/- BEncL: the law BatchEncodes. -/
import Derived.Test.YtlnhecbgjjglfaaDoorBEnc
set_option linter.unusedVariables false
set_option linter.unusedSimpArgs false
namespace Go.Pl
open Go Go.Sh Go.RowKit Go.Gt
def K64 (l : List Ky) : Prop := ∀ k ∈ l, (-9223372036854775808 ≤ k.1 ∧ k.1 ≤ 9223372036854775807) ∧ (-9223372036854775808 ≤ k.2 ∧ k.2 ≤ 9223372036854775807)
structure T64 (x : Txm) : Prop where
  p : -9223372036854775808 ≤ x.proc ∧ x.proc ≤ 9223372036854775807
  a : I64s x.args
  r : K64 x.reads
  w : K64 x.writes
theorem wf64 {n : Int} (h : (Lit.int .i64 n).wf = true) : -9223372036854775808 ≤ n ∧ n ≤ 9223372036854775807 := by
  simp [Lit.wf, IntKind.min, IntKind.max, IntKind.signed, IntKind.bits] at h
  omega
end Go.Pl
namespace Go.Proofs.YtlnhecbgjjglfaaDoor
open Go Go.Sh Go.Pl Go.RowKit Go.Gt Go.Num
theorem rep_ints64 {R : Nat} {w : World} {s : Slc} {ms : Mo intsG} (h : Gt.Rep R w intsG [.slice s.a s.l s.c] ms) : I64s (intsOf ms) := by
  obtain ⟨s', he, h1, h2, h3, h4, h5⟩ := h
  intro a ha
  obtain ⟨i, hi⟩ := List.getElem?_of_mem ha
  obtain ⟨ad, es, g1, g2, g3, g4⟩ := h5 i a hi
  exact wf64 g4.2
theorem rep_keys64 {R : Nat} {w : World} {s : Slc} {ms : Mo keysG} (h : Gt.Rep R w keysG [.slice s.a s.l s.c] ms) : K64 (kysOf ms) := by
  obtain ⟨s', he, h1, h2, h3, h4, h5⟩ := h
  intro k hk
  obtain ⟨i, hi⟩ := List.getElem?_of_mem hk
  obtain ⟨u, hm⟩ := kysL_at hi
  obtain ⟨ad, es, g1, g2, g3, g4⟩ := h5 i (k.1, k.2, u) hm
  obtain ⟨c1, c2, rfl, ⟨rfl, q1⟩, c3, c4, rfl, ⟨rfl, q2⟩, rfl⟩ := g4
  exact ⟨wf64 q1, wf64 q2⟩
theorem rep_bat64 {R : Nat} {w : World} {s : Slc} {ms : Mo batG} (h : Gt.Rep R w batG [.slice s.a s.l s.c] ms) : ∀ x ∈ batOf ms, T64 x := by
  obtain ⟨s', he, h1, h2, h3, h4, h5⟩ := h
  intro x hx
  obtain ⟨i, hi⟩ := List.getElem?_of_mem hx
  obtain ⟨p, a, r, q, hm, rfl⟩ := txL_at hi
  obtain ⟨ad, es, g1, g2, g3, g4⟩ := h5 i (p, a, r, q, ()) hm
  obtain ⟨d1, d2, rfl, ⟨rfl, w1⟩, d3, d4, rfl, ha, d5, d6, rfl, hr, d7, d8, rfl, hq, rfl⟩ := g4
  have ha' := ha
  have hr' := hr
  have hq' := hq
  obtain ⟨ag, rfl, _⟩ := ha
  obtain ⟨rs, rfl, _⟩ := hr
  obtain ⟨ws, rfl, _⟩ := hq
  exact ⟨wf64 w1, rep_ints64 ha', rep_keys64 hr', rep_keys64 hq'⟩
theorem encT_len {xs : List Txm} (h : ∀ x ∈ xs, I64s x.args) : (encT xs).1.length ≤ 40000 := by
  unfold encT
  split
  · rename_i he
    obtain ⟨hn, hfr⟩ := chk_zero he
    have h1 := encU_ten xs.length (by omega)
    have h2 := txsB_len (xs := xs) fun x hx => ⟨hfr x hx, h x hx⟩
    simp only [batB, List.length_append]; omega
  · simp
end Go.Proofs.YtlnhecbgjjglfaaDoor
