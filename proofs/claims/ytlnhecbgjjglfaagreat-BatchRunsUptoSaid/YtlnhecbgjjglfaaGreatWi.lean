/- Wi: a Writer at work: what it has, and that nothing else has changed. -/
import Derived.Test.YtlnhecbgjjglfaaGreatWr
import Derived.Test.YtlnhecbgjjglfaaGreatFr2
set_option linter.unusedVariables false
set_option linter.unusedSimpArgs false
namespace Go.Proofs.YtlnhecbgjjglfaaGreat
open Go Go.Sh Go.Pl Go.RowKit Go.Num
structure WI (S : Nat → Prop) (w0 w : World) (b : Nat) (bs : List UInt8) : Prop where
  ch : Chg S w0 w
  ib : S b ∨ w0.heap.size ≤ b
  wr : ∃ s, Wr w b s bs ∧ ∀ k, blkOf s = some k → (S k ∨ w0.heap.size ≤ k)
section
variable {S : Nat → Prop} {w0 w w' : World} {b : Nat} {bs : List UInt8}
theorem WI.ch0 (h : WI S w0 w b bs) (hc : Ch [] w w') : WI S w0 w' b bs := by
  obtain ⟨s, hw, hs⟩ := h.wr
  exact ⟨h.ch.step (show Chg Nil w w' from hc) fun _ _ h => h.elim, h.ib, s, hw.nil hc, hs⟩
theorem WI.step {s s' : Slc} {bs' : List UInt8} (h : WI S w0 w b bs) (hs : ∀ k, blkOf s = some k → (S k ∨ w0.heap.size ≤ k)) (hw : Wr w' b s' bs') (hst : WSt b s s' w w') : WI S w0 w' b bs' := by
  refine ⟨h.ch.step hst.chg fun i hi he => ?_, h.ib, s', hw, fun k hk => ?_⟩
  · rcases he with rfl | he
    · exact h.ib.resolve_right (by omega)
    · exact (hs i he.symm).resolve_right (by omega)
  · rcases hst.blk k hk with g | g
    · exact hs k g
    · exact .inr (Nat.le_trans h.ch.size g)
/-- At work from a later world on. -/
theorem WI.at (h : WI S w0 w b bs) : ∃ T : Nat → Prop, (∀ k, T k → k < w.heap.size ∧ (S k ∨ w0.heap.size ≤ k)) ∧ ∀ w', Ch [] w w' → WI T w' w' b bs := by
  obtain ⟨s, hw, hs⟩ := h.wr
  refine ⟨fun k => k = b ∨ some k = blkOf s, fun k hk => ?_, fun w' hc => ⟨Chg.refl _ _, .inl (.inl rfl), s, hw.nil hc, fun k hk => .inl (.inr hk.symm)⟩⟩
  rcases hk with rfl | hk
  · exact ⟨hw.blk.lt, h.ib⟩
  · exact ⟨hw.own.lt k hk.symm, hs k hk.symm⟩
theorem WI.back {T : Nat → Prop} {w1 w2 : World} {bs' : List UInt8} (h : WI S w0 w b bs) (hT : ∀ k, T k → k < w.heap.size ∧ (S k ∨ w0.heap.size ≤ k)) (hc : Ch [] w w1) (h' : WI T w1 w2 b bs') : WI S w0 w2 b bs' := by
  have z := hc.size
  have z0 := h.ch.size
  obtain ⟨s', hw, hs⟩ := h'.wr
  refine ⟨(h.ch.step (show Chg Nil w w1 from hc) fun _ _ h => h.elim).step h'.ch fun i hi hti => (hT i hti).2.resolve_right (by omega), h.ib, s', hw, fun k hk => ?_⟩
  rcases hs k hk with g | g
  · exact (hT k g).2
  · exact .inr (by omega)
theorem WI.uint {n : Nat} {n' : Int} {K : World → Prop} (h : WI S w0 w b bs) (hn' : n' = (n : Int)) (hn : n < 18446744073709551616) (hl : bs.length + 10 ≤ 140737488355328) (hK : ∀ w', WI S w0 w' b (bs ++ encU n) → K w') : c_codec_Writer_Uint (some ⟨b, 0, none⟩) n' w K := by
  subst hn'
  obtain ⟨s, hw, hs⟩ := h.wr
  exact wuint_ok hw hn hl fun s' w' hw' hst => hK w' (h.step hs hw' hst)
theorem WI.int {n : Int} {K : World → Prop} (h : WI S w0 w b bs) (hn : -9223372036854775808 ≤ n ∧ n ≤ 9223372036854775807) (hl : bs.length + 10 ≤ 140737488355328) (hK : ∀ w', WI S w0 w' b (bs ++ encU (zig n)) → K w') : c_codec_Writer_Int (some ⟨b, 0, none⟩) n w K := by
  obtain ⟨s, hw, hs⟩ := h.wr
  exact wint_ok hw hn hl fun s' w' hw' hst => hK w' (h.step hs hw' hst)
theorem WI.raw {x : Slc} {xs : List UInt8} {K : World → Prop} (h : WI S w0 w b bs) (hx : Rd w x (U8 xs)) (hxn : x.a = none → x.l = 0 ∧ x.c = 0) (hl : bs.length + xs.length ≤ 140737488355328) (hK : ∀ w', WI S w0 w' b (bs ++ xs) → K w') : c_codec_Writer_Raw (some ⟨b, 0, none⟩) x w K := by
  obtain ⟨s, hw, hs⟩ := h.wr
  exact wraw_ok hw hx hxn hl fun s' w' hw' hst => hK w' (h.step hs hw' hst)
theorem WI.out {K : Slc → World → Prop} (h : WI S w0 w b bs) (hl : bs.length ≤ 140737488351232)
    (hK : ∀ s' w', Own w' 5 1 s' (U8 bs) → Ch [] w w' → Ge w.heap.size (blkOf s') → s'.l = bs.length → (s'.a = none → s'.l = 0) → K s' w') : c_codec_Writer_Out (some ⟨b, 0, none⟩) w K := by
  obtain ⟨s, hw, hs⟩ := h.wr
  exact wout_ok hw hl fun s' w' h1 h2 h3 h4 h5 => hK s' w' h1 h2 h3 h4 h5
theorem WI.new {K : Option Addr → World → Prop} (hK : ∀ b w', WI Nil w w' b [] → K (some ⟨b, 0, none⟩) w') : c_codec_New w K :=
  new_ok fun w' hw hc hz => hK _ w' ⟨hc, .inr (Nat.le_refl _), _, hw, fun k hk => by cases hk⟩
end
end Go.Proofs.YtlnhecbgjjglfaaGreat
