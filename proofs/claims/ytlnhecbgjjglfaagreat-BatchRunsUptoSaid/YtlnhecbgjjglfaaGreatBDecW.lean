/- BDecW: the law BatchDecodes. -/
import Derived.Test.YtlnhecbgjjglfaaGreatDecF
import Derived.Test.YtlnhecbgjjglfaaGreatWghB
set_option linter.unusedVariables false
set_option linter.unusedSimpArgs false
namespace Go.Proofs.YtlnhecbgjjglfaaGreat
open Go Go.Sh Go.Pl Go.RowKit Go.Num Go.Gt
/-- A copy of some bytes, in new memory. -/
theorem copyB {x : Slc} {bs : List UInt8} {w : World} {K : Slc → World → Prop} (hx : Rd w x (U8 bs)) (hxn : x.a = none → x.l = 0 ∧ x.c = 0) (hl : bs.length ≤ 140737488351232)
    (hK : ∀ s w', Own w' 5 1 s (U8 bs) → Ch [] w w' → Ge w.heap.size (blkOf s) → K s w') :
    newP #[] 5 w fun a1 w2 => apP Tryz.prog #[23, 23] 23 [.slice (some a1) 0 0, .slice x.a x.l x.c] w2 K := by
  refine newB fun k w1 hc1 hb1 hk1 hs1 => ?_
  have lx := hx.len
  rw [U8_length] at lx
  have hown : Own w1 5 1 ⟨some ⟨k, 0, none⟩, 0, 0⟩ [] := ⟨by simp, .inr ⟨k, 0, #[], rfl, Nat.zero_le _, hb1, Nat.le_refl _, by unfold maxLen; omega, by simp, by simp⟩⟩
  refine apO TU8 (s := ⟨some ⟨k, 0, none⟩, 0, 0⟩) hown (hx.ch0 hc1) hxn (U8_one _) (by simp only []; omega) (by simp only []; omega) fun s' w2 ho hl2 hg => ?_
  obtain ⟨hc2, hf⟩ := hg.ch
  refine hK s' w2 (by simpa using ho) (hc1.trO hc2 fun j hj => by have hj : some k = some j := hj; cases hj; omega) fun j hj => ?_
  rcases hf j hj with g | g
  · have g : some k = some j := g
    cases g; omega
  · omega
theorem few_of {bs : List UInt8} : ∀ x ∈ (decB bs).1, x.args.length ≤ 1000000 ∧ x.reads.length ≤ 1000000 ∧ x.writes.length ≤ 1000000 := fun x hx => by
  have h := ((decB_ok bs).2 x hx).1
  have h1 := h.a
  have h2 := h.r
  have h3 := h.w
  omega
theorem own_l {w : World} {e : TypeId} {s : Slc} {vs : List Value} {sz : Nat} (h : Own w e sz s vs) : vs.length = s.l * sz := h.len
end Go.Proofs.YtlnhecbgjjglfaaGreat
