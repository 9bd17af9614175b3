/- By: what the small functions on bytes come to: same, copied, roomy, intact, slices.Clone. -/
import Derived.Test.YtlnhecbgjjglfaaDoorGen
import Derived.Test.YtlnhecbgjjglfaaDoorPl
set_option linter.unusedVariables false
set_option linter.unusedSimpArgs false
namespace Go.Proofs.YtlnhecbgjjglfaaDoor
open Go Go.Sh Go.Pl Go.RowKit
theorem TU8 : ElT Tryd.prog 23 5 (.int .u8 0) 1 1 := ⟨by kernel_rfl, by kernel_rfl, rfl, by decide⟩
/-- slices.Clone: nil for nil; else a row of one's own in a new block. -/
theorem clone_ok {s : Slc} {bs : List UInt8} {w : World} {K : Slc → World → Prop} (hs : Rd w s (U8 bs)) (hl : bs.length ≤ 140737488351232)
    (hK : ∀ s' w', Own w' 5 1 s' (U8 bs) → Chg Nil w w' → (∀ b, blkOf s' = some b → w.heap.size ≤ b) → s'.l = bs.length → (s'.a = none → s'.l = 0) → (s.a = none → s' = ⟨none, 0, 0⟩) → (s.a ≠ none → s'.a ≠ none) → K s' w') : c_slices_Clone_byte_byte s w K := by
  refine sim_slices_Clone_byte_byte ?_
  unfold sh_slices_Clone_byte_byte
  have ls := hs.len
  simp only [U8_length] at ls
  cases ha : s.a with
  | none =>
    have h0 : bs = [] := by
      cases bs with
      | nil => rfl
      | cons x bs => obtain ⟨ad, had, _⟩ := hs.at_ 0 (by simp); rw [ha] at had; cases had
    subst h0
    simp only [Option.isNone_none, iteB_true]
    exact hK _ _ (Own.nil _ _ _) (Chg.refl _ _) (fun b hb => by cases hb) rfl (fun _ => rfl) (fun _ => rfl) (fun h => absurd ha h)
  | some ad =>
    simp only [Option.isNone_some, iteB_false]
    refine newP_intro fun w1 hc1 hb1 hs1 => ?_
    have hown : Own w1 5 1 ⟨some ⟨w.heap.size, 0, none⟩, 0, 0⟩ [] := ⟨by simp, .inr ⟨w.heap.size, 0, #[], rfl, Nat.zero_le _, hb1, Nat.le_refl _, by unfold maxLen; omega, by simp, by simp⟩⟩
    rw [← ha]
    refine apP_own TU8 (s := ⟨some ⟨w.heap.size, 0, none⟩, 0, 0⟩) (x := s) (news := U8 bs) hown (fun h => by rw [ha] at h; cases h) (by simp [ls]) (fun a' ha' => cells_of_rd (hs.chg hc1 (fun _ _ h => h)) ha') (U8_one bs) (by simp; omega) (by simp; omega) fun s' w2 ho2 hl2 hc2 hblk hsz hnil => ?_
    refine hK s' w2 (by simpa using ho2) (hc1.step hc2 fun i hi h => ?_) (fun b hb => ?_) (by simpa [ls] using hl2) hnil (fun h => by rw [ha] at h; cases h) (fun _ hn => ?_)
    · simp [blkOf] at h; omega
    · rcases hblk with hx | hx
      · rw [hx] at hb; simp [blkOf] at hb; omega
      · rw [hx] at hb; simp at hb; omega
    · rcases hblk with hx | hx <;> simp [blkOf, hn] at hx
end Go.Proofs.YtlnhecbgjjglfaaDoor
