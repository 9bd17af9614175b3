/- By: what the small functions on bytes come to: same, copied, roomy, intact, slices.Clone. -/
import Derived.Test.YtmadhcoeiclalaaGen
import Derived.Test.YtmadhcoeiclalaaPl
set_option linter.unusedVariables false
set_option linter.unusedSimpArgs false
namespace Go.Proofs.Ytmadhcoeiclalaa
open Go Go.Sh Go.Pl Go.RowKit
theorem TU8 : ElT Try.prog 26 5 (.int .u8 0) 1 1 := ⟨by kernel_rfl, by kernel_rfl, rfl, by decide⟩
theorem same_ok {a b : Slc} {xs ys : List UInt8} {w : World} {K : Bool → World → Prop} (ha : Rd w a (U8 xs)) (hb : Rd w b (U8 ys)) (hl : xs.length ≤ 9000000000000000000)
    (hK : ∀ w', Drw w w' → K (decide (xs = ys)) w') : c_preludelaw01_same a b w K := by
  refine sim_preludelaw01_same ?_
  unfold sh_preludelaw01_same
  have la := ha.len
  have lb := hb.len
  simp only [U8_length] at la lb
  refine iteB_intro (fun h => ?_) (fun h => ?_)
  · have hne : xs.length ≠ ys.length := by
      simp [la, lb] at h; omega
    have := hK w (Drw.refl w)
    rwa [decide_eq_false (fun he => hne (by rw [he]))] at this
  · have hle : xs.length = ys.length := by
      simp [la, lb] at h; omega
    refine loopP_inv (fun st w1 => ∃ i : Nat, st.1 = (i : Int) ∧ i ≤ xs.length ∧ xs.take i = ys.take i ∧ Drw w w1) (fun st _ => xs.length - st.1.toNat) ⟨0, rfl, Nat.zero_le _, by simp, Drw.refl w⟩ ?_
    rintro ⟨i, u⟩ w1 next ⟨k, rfl, hk, hpre, hd⟩ hnext
    simp only
    refine iteB_intro (fun h => ?_) (fun h => ?_)
    · have hlt : k < xs.length := by
        simp [la] at h; omega
      refine (ha.drw hd.drew).idx (by omega) (by simpa using hlt) fun ad had => ?_
      refine ldI_of (n := (xs[k].toNat : Int)) (by rw [had]; simpa using U8_at xs hlt) ?_
      refine (hb.drw hd.drew).idx (by omega) (by simpa using (by omega : k < ys.length)) fun bd hbd => ?_
      refine ldI_of (n := (ys[k].toNat : Int)) (by rw [hbd]; simpa using U8_at ys (by omega : k < ys.length)) ?_
      rw [u8_bne]
      refine iteB_intro (fun h => ?_) (fun h => ?_)
      · have hne : xs[k] ≠ ys[k] := by simpa using h
        have := hK _ hd.drew
        rwa [decide_eq_false (fun he => hne (by simp [he]))] at this
      · have he : xs[k] = ys[k] := by simpa using h
        rw [wrap_i64 (by omega)]
        refine hnext _ _ ⟨k + 1, rfl, hlt, ?_, hd.drew⟩ (by simp; omega)
        rw [List.take_succ_eq_append_getElem hlt, List.take_succ_eq_append_getElem (by omega : k < ys.length), hpre, he]
    · have hge : k = xs.length := by
        simp [la] at h; omega
      have := hK _ hd
      rw [hge] at hpre
      rwa [decide_eq_true (by rw [List.take_length] at hpre; rw [hle] at hpre; rwa [List.take_length] at hpre)] at this
/-- A copy: a new block of just these bytes. -/
theorem copied_ok {b : Slc} {bs : List UInt8} {w : World} {K : Slc → World → Prop} (hb : Rd w b (U8 bs)) (hn : b.a = none → b.l = 0) (hl : bs.length ≤ 140737488351232)
    (hK : ∀ w', Chg Nil w w' → Blk w' w.heap.size (U8 bs).toArray 5 → w'.heap.size = w.heap.size + 1 → K ⟨some ⟨w.heap.size, 0, none⟩, bs.length, bs.length⟩ w') : c_preludelaw01_copied b w K := by
  refine sim_preludelaw01_copied ?_
  unfold sh_preludelaw01_copied
  obtain ⟨ba, bl, bc⟩ := b
  obtain rfl : bl = bs.length := by simpa using hb.len
  dsimp only at hn ⊢
  refine mkP_intro TU8 (by omega) (by omega) fun w1 hc1 hb1 hs1 => ?_
  dsimp only
  refine cpP_intro TU8 (x := ⟨ba, bs.length, bc⟩) (o := 0) (dl := bs.length) (cs := U8 bs) hb1 hn (by simp [Nat.min_def]) (fun ad had => cells_of_rd (hb.chg hc1 (fun _ _ h => h)) had) (by simp [madeCells]) (U8_one bs) fun w2 hc2 hb2 hs2 => ?_
  refine hK w2 ((hc1.step hc2 fun i hi h => ?_)) ?_ (by omega)
  · omega
  · have e : (madeCells (Value.int .u8 0).cells (bs.length * 1)).toList.take 0 ++ U8 bs ++ (madeCells (Value.int .u8 0).cells (bs.length * 1)).toList.drop (0 + (U8 bs).length) = U8 bs := by
      simp [madeCells]
    rw [e] at hb2
    exact hb2
/-- A roomy copy: a new block of these bytes and three marks. -/
theorem roomy_ok {b : Slc} {bs : List UInt8} {w : World} {K : Slc → Slc → World → Prop} (hb : Rd w b (U8 bs)) (hn : b.a = none → b.l = 0) (hl : bs.length ≤ 140737488351232)
    (hK : ∀ w', Chg Nil w w' → Blk w' w.heap.size (U8 (bs ++ [171, 171, 171])).toArray 5 → w'.heap.size = w.heap.size + 1 →
      K ⟨some ⟨w.heap.size, 0, none⟩, bs.length, bs.length + 3⟩ ⟨some ⟨w.heap.size, 0, none⟩, bs.length + 3, bs.length + 3⟩ w') : c_preludelaw01_roomy b w K := by
  refine sim_preludelaw01_roomy ?_
  unfold sh_preludelaw01_roomy
  obtain ⟨ba, bl, bc⟩ := b
  obtain rfl : bl = bs.length := by simpa using hb.len
  dsimp only at hn ⊢
  rw [wrap_i64 (by omega), show ((bs.length : Int) + 3) = ((bs.length + 3 : Nat) : Int) from by omega]
  refine mkP_intro TU8 (by omega) (by omega) fun w1 hc1 hb1 hs1 => ?_
  dsimp only
  refine cpP_intro TU8 (x := ⟨ba, bs.length, bc⟩) (o := 0) (dl := bs.length + 3) (cs := U8 bs) hb1 hn (by simp [Nat.min_def]) (fun ad had => cells_of_rd (hb.chg hc1 (fun _ _ h => h)) had) (by simp [madeCells]) (U8_one bs) fun w2 hc2 hb2 hs2 => ?_
  have e : (madeCells (Value.int .u8 0).cells ((bs.length + 3) * 1)).toList.take 0 ++ U8 bs ++ (madeCells (Value.int .u8 0).cells ((bs.length + 3) * 1)).toList.drop (0 + (U8 bs).length) = U8 (bs ++ List.replicate 3 0) := by
    rw [show (Value.int .u8 0).cells = #[Value.int .u8 0] from rfl, Nat.mul_one, madeCells_one, U8_append, U8_replicate]
    simp
  rw [e] at hb2
  refine loopP_inv (fun st w3 => ∃ i : Nat, st.1 = ((bs.length + i : Nat) : Int) ∧ i ≤ 3 ∧ Chg Nil w w3 ∧ w3.heap.size = w.heap.size + 1 ∧
    Blk w3 w.heap.size (U8 (bs ++ (List.replicate i 171 ++ List.replicate (3 - i) 0))).toArray 5) (fun st _ => bs.length + 3 - st.1.toNat) ?_ ?_
  · exact ⟨0, by simp, by omega, hc1.step hc2 fun i hi h => by omega, by omega, hb2⟩
  · rintro ⟨i, u⟩ w3 next ⟨k, rfl, hk, hc3, hs3, hb3⟩ hnext
    simp only
    refine iteB_intro (fun h => ?_) (fun h => ?_)
    · have hlt : k < 3 := by
        simp at h; omega
      refine idxP_intro (by omega) (by omega) rfl ?_
      rw [add_mk, Nat.zero_add, Nat.mul_one, Int.toNat_natCast]
      refine stP_intro hb3 (by simp; omega) fun w4 hc4 hb4 hs4 => ?_
      rw [wrap_i64 (by omega)]
      refine hnext _ _ ⟨k + 1, by simp; omega, by omega, hc3.step hc4 fun i hi h => by omega, by omega, ?_⟩ (by simp; omega)
      have e2 : (U8 (bs ++ (List.replicate k 171 ++ List.replicate (3 - k) 0))).toArray.setIfInBounds (bs.length + k) (.int .u8 171) = (U8 (bs ++ (List.replicate (k + 1) 171 ++ List.replicate (3 - (k + 1)) 0))).toArray := by
        obtain rfl | rfl | rfl : k = 0 ∨ k = 1 ∨ k = 2 := by omega
        all_goals
          rw [← Array.toList_inj]
          simp [U8, List.set_append, List.replicate_succ]
      rw [e2] at hb4
      exact hb4
    · have hge : k = 3 := by
        simp at h; omega
      subst hge
      refine ⟨by simp, by simp, by simp; omega, ?_⟩
      have := hK w3 hc3 (by simpa using hb3) hs3
      simpa [Int.toNat_natCast] using this
theorem intact_ok {full b : Slc} {fs bs : List UInt8} {w : World} {K : Bool → World → Prop} (hf : Rd w full (U8 (fs ++ [171, 171, 171]))) (hlf : fs.length = bs.length) (hb : Rd w b (U8 bs)) (hl : bs.length ≤ 9000000000000000000)
    (hK : ∀ w', Drw w w' → K (decide (fs = bs)) w') : c_preludelaw01_intact full b w K := by
  refine sim_preludelaw01_intact ?_
  unfold sh_preludelaw01_intact
  have lf := hf.len
  have lb := hb.len
  have cf := hf.cap
  simp only [U8_length, List.length_append, List.length_cons, List.length_nil, hlf] at lf lb
  refine loopP_inv (fun st w1 => w1 = w ∧ ∃ i : Nat, st.1 = ((bs.length + i : Nat) : Int) ∧ i ≤ 3) (fun st _ => bs.length + 3 - st.1.toNat) ⟨rfl, 0, by simp [lb], by omega⟩ ?_
  rintro ⟨i, u⟩ w1 next ⟨rfl, k, rfl, hk⟩ hnext
  simp only
  refine iteB_intro (fun h => ?_) (fun h => ?_)
  · have hlt : k < 3 := by
      simp [lf] at h; omega
    refine hf.idx (by omega) (by simp [hlf]; omega) fun ad had => ?_
    refine ldI_of (n := 171) ?_ ?_
    · rw [had, Int.toNat_natCast, U8_at _ (by simp [hlf]; omega)]
      rw [List.getElem_append_right (by omega)]
      obtain rfl | rfl | rfl : k = 0 ∨ k = 1 ∨ k = 2 := by omega
      all_goals simp [hlf]
    · simp only [bne_self_eq_false, iteB_false]
      rw [wrap_i64 (by omega)]
      exact hnext _ _ ⟨rfl, k + 1, by simp; omega, by omega⟩ (by simp; omega)
  · refine ⟨by simp, by simp, by simp; omega, ?_⟩
    refine same_ok (xs := fs) ?_ hb (by omega) hK
    refine ⟨by simp [hlf]; omega, by simp; omega, fun j hj => ?_⟩
    simp only [U8_length] at hj
    obtain ⟨ad, ha, hx⟩ := hf.at_ j (by simp; omega)
    refine ⟨ad, ?_, ?_⟩
    · simp [ha]
    · rw [hx, U8_append, List.getElem?_append_left (by simpa using hj)]
/-- slices.Clone: nil for nil; else a row of one's own in a new block. -/
theorem clone_ok {s : Slc} {bs : List UInt8} {w : World} {K : Slc → World → Prop} (hs : Rd w s (U8 bs)) (hl : bs.length ≤ 140737488351232)
    (hK : ∀ s' w', Own w' 5 1 s' (U8 bs) → Chg Nil w w' → (∀ b, blkOf s' = some b → w.heap.size ≤ b) → s'.l = bs.length → (s'.a = none → s'.l = 0) → (s.a = none → s' = ⟨none, 0, 0⟩) → (s.a ≠ none → s'.a ≠ none) → K s' w') : c_slices_Clone_byte_byte s w K := by
  refine sim_slices_Clone_byte_byte ?_
  unfold sh_slices_Clone_byte_byte
  have ls := hs.len
  simp only [U8_length] at ls
  cases ha : s.a with
  | none =>
    have h0 : bs = [] := by
      cases bs with
      | nil => rfl
      | cons x bs => obtain ⟨ad, had, _⟩ := hs.at_ 0 (by simp); rw [ha] at had; cases had
    subst h0
    simp only [Option.isNone_none, iteB_true]
    exact hK _ _ (Own.nil _ _ _) (Chg.refl _ _) (fun b hb => by cases hb) rfl (fun _ => rfl) (fun _ => rfl) (fun h => absurd ha h)
  | some ad =>
    simp only [Option.isNone_some, iteB_false]
    refine newP_intro fun w1 hc1 hb1 hs1 => ?_
    have hown : Own w1 5 1 ⟨some ⟨w.heap.size, 0, none⟩, 0, 0⟩ [] := ⟨by simp, .inr ⟨w.heap.size, 0, #[], rfl, Nat.zero_le _, hb1, Nat.le_refl _, by unfold maxLen; omega, by simp, by simp⟩⟩
    rw [← ha]
    refine apP_own TU8 (s := ⟨some ⟨w.heap.size, 0, none⟩, 0, 0⟩) (x := s) (news := U8 bs) hown (fun h => by rw [ha] at h; cases h) (by simp [ls]) (fun a' ha' => cells_of_rd (hs.chg hc1 (fun _ _ h => h)) ha') (U8_one bs) (by simp; omega) (by simp; omega) fun s' w2 ho2 hl2 hc2 hblk hsz hnil => ?_
    refine hK s' w2 (by simpa using ho2) (hc1.step hc2 fun i hi h => ?_) (fun b hb => ?_) (by simpa [ls] using hl2) hnil (fun h => by rw [ha] at h; cases h) (fun _ hn => ?_)
    · simp [blkOf] at h; omega
    · rcases hblk with hx | hx
      · rw [hx] at hb; simp [blkOf] at hb; omega
      · rw [hx] at hb; simp at hb; omega
    · rcases hblk with hx | hx <;> simp [blkOf, hn] at hx
end Go.Proofs.Ytmadhcoeiclalaa
