/- BookE: a book's ends. -/
import Derived.Test.YtmadhcoeiclalaaBook
set_option linter.unusedVariables false
set_option linter.unusedSimpArgs false
namespace Go.Proofs.Ytmadhcoeiclalaa
open Go Go.Sh Go.Pl Go.RowKit
theorem BkF.lt {w : World} {b : Nat} {L W : Slc} {n : Nat} {l c : Nat → Slc} {bs : Nat → List UInt8} (h : Bk w b L W n l c bs) {k : Nat} (hk : BkF b L W n l c k) : k < w.heap.size := by
  obtain ⟨p, hp, hx⟩ := hk
  exact h.lt p hp k hx
def cc (i : Nat) : UInt8 := UInt8.ofNat (100 + i * 3)
/-- While the lists grow. -/
structure Gro (w : World) (b : Nat) (L W M : Slc) (n : Nat) (l c m : Nat → Slc) (bs : Nat → List UInt8) (t : Nat → Nat) (H : Nat) : Prop where
  blk : Blk w b #[sv L, sv W] 31
  rL : Rd w L (rowV l n)
  rW : Rd w W (rowV c n)
  rl : ∀ k, k < n → Rd w (l k) (U8 (bs k))
  rc : ∀ k, k < n → Rd w (c k) (U8 (bs k))
  oM : Own w 26 1 M (rowV m n)
  om : ∀ k, k < n → Own w 5 1 (m k) (U8 (bs k ++ List.replicate (t k) (cc k)))
  E : ∀ k, k < n → (m k).a = (l k).a ∨ ∀ q, blkOf (m k) = some q → H ≤ q
  inj : ∀ k k', k < n → k' < n → k ≠ k' → ∀ q, blkOf (m k) = some q → blkOf (m k') ≠ some q
  mM : ∀ k, k < n → ∀ q, blkOf (m k) = some q → blkOf M ≠ some q
  H0 : H ≤ w.heap.size
  MH : ∀ q, blkOf M = some q → q < H ∧ ¬ BkF b L W n l c q
set_option maxRecDepth 20000 in
theorem Gro.step {w0 w w1 : World} {b : Nat} {L W M : Slc} {n : Nat} {l c m : Nat → Slc} {bs : Nat → List UInt8} {t : Nat → Nat} {H : Nat} (g : Gro w b L W M n l c m bs t H) (sep : Sep (2 * n + 3) (obj b L W l c)) (lt : ∀ q, BkF b L W n l c q → q < H) (few : ∀ k, k < n → (bs k).length ≤ 140737488351232)
    {i : Nat} {i' : Int} (hi' : i' = (i : Int)) (hi : i < n) (ht : t i ≤ 100) {K : World → Prop}
    (hK : ∀ s w', Gro w' b L W M n l c (upd m i s) bs (upd t i (t i + 1)) H → Chg (fun q => BkF b L W n l c q ∨ H ≤ q ∨ blkOf M = some q) w w' → K w') :
    idxP M.a M.l i' 1 fun a52 => ldS a52 w fun s53 => newP #[.int .u8 ((cc i).toNat : Int)] 5 w fun a54 w55 => apP Try.prog #[26, 26] 26 [.slice s53.a s53.l s53.c, .slice (some a54) 1 1] w55 fun s57 w56 => idxP M.a M.l i' 1 fun a58 => stP a58 (.slice s57.a s57.l s57.c) w56 fun w59 => K w59 := by
  subst hi'
  refine g.oM.rd.idx (by omega) (by simp; omega) fun ad had => ?_
  rw [Int.toNat_natCast, rowV_at m hi] at had
  refine ldS_of had ?_
  refine newP_intro fun w2 hc2 hb2 hs2 => ?_
  have fw := few i hi
  have hml : (m i).l = (bs i).length + t i := by have := (g.om i hi).rd.len; simpa using this
  have hmlt := (g.om i hi).lt
  refine apP_keep TU8 (s := m i) (v := .int .u8 ((cc i).toNat : Int)) ((g.om i hi).chg hc2 fun _ _ h => h) hb2 (fun he => by have := hmlt _ he; omega) rfl (by omega) (by omega) fun s w3 ho3 hg3 hkeep hnew => ?_
  -- what m i's block is not
  have own_is : ∀ k, k < n → ∀ q, blkOf (m k) = some q → (blkOf (l k) = some q) ∨ H ≤ q := fun k hk q hq => by
    rcases g.E k hk with h1 | h1
    · left; unfold blkOf at hq ⊢; rw [← h1]; exact hq
    · exact .inr (h1 q hq)
  have dm : ∀ p, p < 2 * n + 3 → p ≠ 2 * i + 3 → ∀ q, blkOf (obj b L W l c p) = some q → ¬ (some q = blkOf (m i)) := fun p hp hne q hq he => by
    rcases own_is i hi q he.symm with h1 | h1
    · exact sep.dis hp (q := 2 * i + 3) (by omega) hne hq (by rw [objl]; exact h1)
    · have := lt q ⟨p, hp, hq⟩; omega
  have hc3 := hg3.chg
  have blk3 := (g.blk.chg hc2 fun h => h).chg hc3 (dm 0 (by omega) (by omega) b rfl)
  have rL3 := (g.rL.chg hc2 fun _ _ h => h).chg hc3 (dm 1 (by omega) (by omega))
  have rW3 := (g.rW.chg hc2 fun _ _ h => h).chg hc3 (dm 2 (by omega) (by omega))
  have rc3 : ∀ k, k < n → Rd w3 (c k) (U8 (bs k)) := fun k hk => ((g.rc k hk).chg hc2 fun _ _ h => h).chg hc3 fun q hq => dm (2 * k + 4) (by omega) (by omega) q (by rw [objc]; exact hq)
  have rl3 : ∀ k, k < n → Rd w3 (l k) (U8 (bs k)) := fun k hk => by
    have h2 := (g.rl k hk).chg hc2 (fun _ _ h => h)
    by_cases hki : k = i
    · subst hki
      rcases g.E k hk with h1 | h1
      · exact hkeep (l k) (U8 (bs k)) h2 h1.symm (by simp)
      · exact h2.chg hc3 fun q hq he => by
          have := lt q ⟨2 * k + 3, by omega, by rw [objl]; exact hq⟩
          have := h1 q he.symm
          omega
    · exact h2.chg hc3 fun q hq => dm (2 * k + 3) (by omega) (by omega) q (by rw [objl]; exact hq)
  have oM3 : Own w3 26 1 M (rowV m n) := (g.oM.chg hc2 fun _ _ h => h).chg hc3 fun q hq he => g.mM i hi q he.symm hq
  have om3 : ∀ k, k < n → k ≠ i → Own w3 5 1 (m k) (U8 (bs k ++ List.replicate (t k) (cc k))) := fun k hk hne => ((g.om k hk).chg hc2 fun _ _ h => h).chg hc3 fun q hq he => g.inj k i hk hi hne q hq he.symm
  have hs3 : ∀ q, blkOf s = some q → blkOf (m i) = some q ∨ w2.heap.size ≤ q := hg3.blk
  refine oM3.set (j := i) rfl (by simpa using hi) rfl fun w4 ho4 hc4 => ?_
  have e4 : (rowV m n).set i (.slice s.a s.l s.c) = rowV (upd m i s) n := rowV_upd m hi s
  rw [e4] at ho4
  have nM : ∀ p, p < 2 * n + 3 → ∀ q, blkOf (obj b L W l c p) = some q → ¬ (some q = blkOf M) := fun p hp q hq he => (g.MH q he.symm).2 ⟨p, hp, hq⟩
  have hMlt := g.oM.lt
  have sM : ∀ q, blkOf s = some q → ¬ (some q = blkOf M) := fun q hq he => by
    rcases hs3 q hq with h1 | h1
    · exact g.mM i hi q h1 he.symm
    · have := hMlt q he.symm; have := hc2.size; omega
  refine hK s w4 ⟨blk3.chg hc4 (nM 0 (by omega) b rfl), rL3.chg hc4 (nM 1 (by omega)), rW3.chg hc4 (nM 2 (by omega)), fun k hk => (rl3 k hk).chg hc4 fun q hq => nM (2 * k + 3) (by omega) q (by rw [objl]; exact hq),
    fun k hk => (rc3 k hk).chg hc4 fun q hq => nM (2 * k + 4) (by omega) q (by rw [objc]; exact hq), ho4, fun k hk => ?_, fun k hk => ?_, fun k k' hk hk' hne q hq => ?_, fun k hk q hq he => ?_, ?_, g.MH⟩ ?_
  · by_cases hki : k = i
    · subst hki
      rw [upd_eq, upd_eq]
      have e5 : U8 (bs k ++ List.replicate (t k) (cc k)) ++ [.int .u8 ((cc k).toNat : Int)] = U8 (bs k ++ List.replicate (t k + 1) (cc k)) := by
        rw [List.replicate_succ', ← List.append_assoc, U8_append (bs k ++ _)]
        rfl
      rw [e5] at ho3
      exact ho3.chg hc4 sM
    · rw [upd_ne hki, upd_ne hki]
      exact (om3 k hk hki).chg hc4 fun q hq he => g.mM k hk q hq he.symm
  · by_cases hki : k = i
    · subst hki
      rw [upd_eq]
      rcases hnew with h1 | h1
      · rcases g.E k hk with h2 | h2
        · exact .inl (h1.trans h2)
        · refine .inr fun q hq => h2 q ?_
          unfold blkOf at hq ⊢
          rw [← h1]; exact hq
      · exact .inr fun q hq => by have := h1 q hq; have := g.H0; have := hc2.size; omega
    · rw [upd_ne hki]
      exact g.E k hk
  · by_cases hki : k = i
    · subst hki
      rw [upd_eq] at hq
      rw [upd_ne (fun h => hne h.symm)]
      rcases hs3 q hq with h1 | h1
      · exact g.inj k k' hk hk' hne q h1
      · intro he
        have := (g.om k' hk').lt q he
        have := hc2.size
        omega
    · rw [upd_ne hki] at hq
      by_cases hki' : k' = i
      · subst hki'
        rw [upd_eq]
        intro he
        rcases hs3 q he with h1 | h1
        · exact g.inj k k' hk hk' hne q hq h1
        · have := (g.om k hk).lt q hq
          have := hc2.size
          omega
      · rw [upd_ne hki']
        exact g.inj k k' hk hk' hne q hq
  · by_cases hki : k = i
    · subst hki
      rw [upd_eq] at hq
      exact sM q hq he.symm
    · rw [upd_ne hki] at hq
      exact g.mM k hk q hq he
  · have := g.H0; have := hc2.size; have := hc3.size; have := hc4.size; omega
  · refine Chg.step (Chg.step (hc2.mono fun _ _ h => h.elim) hc3 fun q hq he => ?_) hc4 fun q hq he => .inr (.inr he.symm)
    rcases own_is i hi q he.symm with h1 | h1
    · exact .inl ⟨2 * i + 3, by omega, by rw [objl]; exact h1⟩
    · exact .inr (.inl h1)
theorem byte_ij (i j : Nat) (hi : i ≤ 1000000000000) (hj : j ≤ 140737488351232) : IntKind.u8.wrap (IntKind.i64.wrap ((IntKind.i64.wrap ((i : Int) * 7)) + (j : Int))) = ((UInt8.ofNat (i * 7 + j)).toNat : Int) := by
  rw [wrap_i64 (x := (i : Int) * 7) (by omega), wrap_i64 (by omega), ← wrap_u8_nat']
  congr 1
theorem byte_cc (i : Nat) (hi : i ≤ 1000000000000) : IntKind.u8.wrap (IntKind.i64.wrap (100 + (IntKind.i64.wrap ((i : Int) * 3)))) = ((cc i).toNat : Int) := by
  rw [wrap_i64 (x := (i : Int) * 3) (by omega), wrap_i64 (by omega), cc, ← wrap_u8_nat']
  congr 1
set_option maxRecDepth 20000 in
theorem ends_ok {w : World} {b : Nat} {L W : Slc} {n : Nat} {l c : Nat → Slc} {bs : Nat → List UInt8} {K : Bool → World → Prop} (h : Bk w b L W n l c bs) (hn : n ≤ 1000000000000) (hK : ∀ w', Chg (BkF b L W n l c) w w' → K true w') : c_preludelaw01_book_ends (some ⟨b, 0, none⟩) w K := by
  refine sim_preludelaw01_book_ends ?_
  unfold sh_preludelaw01_book_ends
  have hLl : L.l = n := by have := h.oL.rd.len; simpa using this
  refine whole_ok h.blk h.oL.rd h.oW.rd (fun i hi => (h.ol i hi).rd) (fun i hi => (h.oc i hi).rd) (fun i hi => by have := h.few i hi; omega) hn fun w1 hd1 => ?_
  refine iteB_neg (by simp) ?_
  have hlt := fun k (hk : BkF b L W n l c k) => BkF.lt h hk
  refine loopP_inv (fun st w5 => ∃ i : Nat, st.1 = (i : Int) ∧ i ≤ n ∧ Bk w5 b L W n l c (fun k => if k < i then mark k (bs k).length else bs k) ∧ Chg (BkF b L W n l c) w w5) (fun st _ => n - st.1.toNat)
    ⟨0, rfl, Nat.zero_le _, (h.nil (hd1.chg Nil)).congr fun k hk => if_neg (by omega), hd1.chg _⟩ ?_
  rintro ⟨i0, u⟩ w5 next ⟨i, rfl, hi, h5, hc5⟩ hnext
  simp only
  have c0 : ∀ {w' : World} {bs' : Nat → List UInt8}, Bk w' b L W n l c bs' → w'.cell? ⟨b, 0, none⟩ = some (.slice L.a L.l L.c) := fun h => by rw [h.blk.cell]; rfl
  rw [nnP_some]
  refine ldS_of (c0 h5) ?_
  refine iteB_intro (fun hx => ?_) (fun hx => ?_)
  · have hlti : i < n := by simp [hLl] at hx; omega
    have fi := h.few i hlti
    refine loopP_inv (fun st w6 => ∃ j : Nat, st.1 = (j : Int) ∧ j ≤ (bs i).length ∧ Bk w6 b L W n l c (fun k => if k < i then mark k (bs k).length else if k = i then fillAt i j (bs i) else bs k) ∧ Chg (BkF b L W n l c) w w6) (fun st _ => (bs i).length - st.1.toNat)
      ⟨0, rfl, Nat.zero_le _, h5.congr fun k hk => by
        split
        · rfl
        · split
          · rename_i _ he; subst he; rw [fillAt_zero]
          · rfl, hc5⟩ ?_
    rintro ⟨j0, u⟩ w6 next2 ⟨j, rfl, hj, h6, hc6⟩ hnext2
    simp only
    rw [nnP_some]
    refine ldS_of (c0 h6) ?_
    refine h6.oL.rd.idx (by omega) (by simp; omega) fun ad had => ?_
    rw [Int.toNat_natCast, rowV_at l hlti] at had
    refine ldS_of had ?_
    have hli : (l i).l = (bs i).length := by
      have := (h6.ol i hlti).rd.len
      simp only [U8_length, if_neg (Nat.lt_irrefl i), if_true] at this
      rw [this, fillAt_length _ _ _ hj]
    refine iteB_intro (fun hy => ?_) (fun hy => ?_)
    · have hltj : j < (bs i).length := by simp [hli] at hy; omega
      rw [byte_ij i j (by omega) (by omega)]
      refine h6.fill rfl rfl hlti (v := UInt8.ofNat (i * 7 + j)) ?_ fun w7 h7 hc7 => ?_
      · simp only [if_neg (Nat.lt_irrefl i), if_true]
        rw [fillAt_length _ _ _ hj]; exact hltj
      rw [wrap_i64 (by omega)]
      refine hnext2 _ _ ⟨j + 1, by simp, hltj, h7.congr fun k hk => ?_, hc6.step hc7 fun _ _ h => h⟩ (by simp; omega)
      by_cases hki : k = i
      · subst hki
        rw [upd_eq]
        simp only [if_neg (Nat.lt_irrefl k), if_true]
        rw [fillAt_step _ _ _ hltj]
      · rw [upd_ne hki]
        simp only [if_neg hki]
    · have hje : j = (bs i).length := by simp [hli] at hy; omega
      subst hje
      rw [wrap_i64 (by omega)]
      refine hnext _ _ ⟨i + 1, by simp, hlti, h6.congr fun k hk => ?_, hc6⟩ (by simp; omega)
      by_cases hki : k = i
      · subst hki
        simp only [if_neg (Nat.lt_irrefl k), if_true, if_pos (Nat.lt_succ_self k)]
        rw [fillAt_all]
      · by_cases h1 : k < i
        · simp only [if_pos h1, if_pos (show k < i + 1 by omega)]
        · simp only [if_neg h1, if_neg hki, if_neg (show ¬ k < i + 1 by omega)]
  · have hie : i = n := by simp [hLl] at hx; omega
    subst hie
    have hF : Bk w5 b L W i l c (fun k => mark k (bs k).length) := h5.congr fun k hk => (if_pos hk).symm
    generalize (fun k => mark k (bs k).length) = fs at hF
    clear h5 hnext
    -- the lists once more
    refine loopP_inv (fun st w6 => ∃ (k : Nat) , st.2.1 = (k : Int) ∧ k ≤ i ∧ Own w6 26 1 st.1 (rowV l k) ∧ NewS w.heap.size st.1 ∧ Bk w6 b L W i l c fs ∧ Chg (BkF b L W i l c) w w6) (fun st _ => i - st.2.1.toNat)
      ⟨0, rfl, Nat.zero_le _, Own.nil _ _ _, (fun b h => by cases h), hF, hc5⟩ ?_
    rintro ⟨M, k0, u⟩ w6 next2 ⟨k, rfl, hk, hM, hMn, h6, hc6⟩ hnext2
    simp only
    rw [nnP_some]
    refine ldS_of (c0 h6) ?_
    refine iteB_intro (fun hx => ?_) (fun hx => ?_)
    · have hltk : k < i := by simp [hLl] at hx; omega
      rw [nnP_some]
      refine ldS_of (c0 h6) ?_
      refine h6.oL.rd.idx (by omega) (by simp; omega) fun ad had => ?_
      rw [Int.toNat_natCast, rowV_at l hltk] at had
      refine ldS_of had ?_
      refine newP_intro fun w7 hc7 hb7 hs7 => ?_
      have hMl : M.l = k := by have := hM.rd.len; simpa using this
      refine apP_one TBE (s := M) (v := sv (l k)) (hM.chg hc7 fun _ _ h => h) hb7 rfl (by omega) (by omega) fun M' w8 hM8 hl8 hc8 hblk8 hsz8 => ?_
      have hMb : ∀ p, p < 2 * i + 3 → ∀ q, blkOf (obj b L W l c p) = some q → ¬ (some q = blkOf M) := fun p hp q hq he => by
        have := hMn q he.symm
        have := hlt q ⟨p, hp, hq⟩
        omega
      have h8 : Bk w8 b L W i l c fs := (h6.nil hc7).chg hc8 hMb
      rw [wrap_i64 (by omega)]
      have e8 : rowV l k ++ [sv (l k)] = rowV l (k + 1) := by simp [rowV, List.range_succ]
      rw [e8] at hM8
      refine hnext2 _ _ ⟨k + 1, by simp, hltk, hM8, fun q hq => ?_, h8, (hc6.step hc7 fun _ _ h => h.elim).step hc8 fun q hq he => by have := hMn q he.symm; omega⟩ (by simp; omega)
      rcases hblk8 with h2 | h2
      · exact hMn q (h2 ▸ hq)
      · rw [h2] at hq; simp at hq; have := hc6.size; have := hc7.size; omega
    · have hke : k = i := by simp [hLl] at hx; omega
      subst hke
      clear hnext2
      have hMl : M.l = k := by have := hM.rd.len; simpa using this
      have hMlt := hM.lt
      -- they grow
      have g0 : Gro w6 b L W M k l c l fs (fun _ => 0) w6.heap.size :=
        ⟨h6.blk, h6.oL.rd, h6.oW.rd, fun q hq => (h6.ol q hq).rd, fun q hq => (h6.oc q hq).rd, hM, fun q hq => by simpa using h6.ol q hq, fun q hq => .inl rfl,
         fun q q' hq hq' hne r hr => by have := h6.sep.dis (p := 2 * q + 3) (q := 2 * q' + 3) (by omega) (by omega) (by omega) (k := r) (by rw [objl]; exact hr); rwa [objl] at this,
         fun q hq r hr he => by have := hMn r he; have := hlt r ⟨2 * q + 3, by omega, by rw [objl]; exact hr⟩; omega, Nat.le_refl _,
         fun q hq => ⟨hMlt q hq, fun hb => by have := hMn q hq; have := hlt q hb; omega⟩⟩
      have lt6 : ∀ q, BkF b L W k l c q → q < w6.heap.size := fun q hq => BkF.lt h6 hq
      have up : ∀ {w' w'' : World}, Chg (BkF b L W k l c) w w' → w6.heap.size ≤ w'.heap.size → Chg (fun q => BkF b L W k l c q ∨ w6.heap.size ≤ q ∨ blkOf M = some q) w' w'' → Chg (BkF b L W k l c) w w'' := fun h1 h2 h3 => h1.step h3 fun q hq he => by
        rcases he with he | he | he
        · exact he
        · have := hc6.size; omega
        · have := hMn q he; omega
      refine loopP_inv (fun st w7 => ∃ (j : Nat) (m : Nat → Slc) (t : Nat → Nat), st.1 = (j : Int) ∧ j ≤ 70 ∧ (∀ q, q < k → t q = j) ∧ Gro w7 b L W M k l c m fs t w6.heap.size ∧ Chg (BkF b L W k l c) w w7) (fun st _ => 70 - st.1.toNat)
        ⟨0, l, _, rfl, by omega, fun _ _ => rfl, g0, hc6⟩ ?_
      rintro ⟨j0, u⟩ w7 next3 ⟨j, m, t, rfl, hj, htj, g7, hc7⟩ hnext3
      simp only
      refine iteB_intro (fun hx => ?_) (fun hx => ?_)
      · have hltj : j < 70 := by simp at hx; omega
        refine loopP_inv (fun st w8 => ∃ (q : Nat) (m : Nat → Slc) (t : Nat → Nat), st.1 = (q : Int) ∧ q ≤ k ∧ (∀ r, r < k → t r = if r < q then j + 1 else j) ∧ Gro w8 b L W M k l c m fs t w6.heap.size ∧ Chg (BkF b L W k l c) w w8) (fun st _ => k - st.1.toNat)
          ⟨0, m, t, rfl, Nat.zero_le _, fun r hr => by rw [htj r hr, if_neg (by omega)], g7, hc7⟩ ?_
        rintro ⟨q0, u⟩ w8 next4 ⟨q, m, t, rfl, hq, htq, g8, hc8⟩ hnext4
        simp only
        refine iteB_intro (fun hy => ?_) (fun hy => ?_)
        · have hltq : q < k := by simp [hMl] at hy; omega
          rw [byte_cc q (by omega)]
          have htq' : t q = j := by rw [htq q hltq, if_neg (by omega)]
          refine g8.step (w0 := w) (w1 := w) h6.sep lt6 h6.few rfl hltq (by omega) fun s w9 g9 hc9 => ?_
          rw [wrap_i64 (by omega)]
          refine hnext4 _ _ ⟨q + 1, _, _, by simp, hltq, fun r hr => ?_, g9, up hc8 g8.H0 hc9⟩ (by simp; omega)
          by_cases hrq : r = q
          · subst hrq; rw [upd_eq, htq', if_pos (by omega)]
          · rw [upd_ne hrq, htq r hr]
            by_cases h1 : r < q
            · rw [if_pos h1, if_pos (by omega)]
            · rw [if_neg h1, if_neg (by omega)]
        · have hqe : q = k := by simp [hMl] at hy; omega
          subst hqe
          rw [wrap_i64 (by omega)]
          exact hnext3 _ _ ⟨j + 1, m, t, by simp, hltj, fun r hr => by rw [htq r hr, if_pos hr], g8, hc8⟩ (by simp; omega)
      · -- all are looked at
        clear hnext3
        have rM := g7.oM.rd
        refine loopP_inv (fun st w8 => ∃ q : Nat, st.1 = (q : Int) ∧ q ≤ k ∧ Drw w7 w8) (fun st _ => k - st.1.toNat) ⟨0, rfl, Nat.zero_le _, Drw.refl _⟩ ?_
        rintro ⟨q0, u⟩ w8 next4 ⟨q, rfl, hq, hd8⟩ hnext4
        simp only
        have d0 : ∀ {w' : World}, Drw w7 w' → w'.cell? ⟨b, 0, none⟩ = some (.slice L.a L.l L.c) := fun h => by rw [(g7.blk.drw h).cell]; rfl
        have d1 : ∀ {w' : World}, Drw w7 w' → w'.cell? ((⟨b, 0, none⟩ : Addr).add 1) = some (.slice W.a W.l W.c) := fun h => by rw [add_mk, (g7.blk.drw h).cell]; rfl
        refine iteB_intro (fun hy => ?_) (fun hy => ?_)
        · have hltq : q < k := by simp [hMl] at hy; omega
          have fq := h6.few q hltq
          have lM : ∀ {w' : World} {K : Addr → Prop}, Drw w7 w' → (∀ ad, w'.cell? ad = some (sv (m q)) → K ad) → idxP M.a M.l (q : Int) 1 K := fun hd hk => (rM.drw hd).idx (by omega) (by simp; omega) fun ad had => hk ad (by rw [had, Int.toNat_natCast, rowV_at m hltq])
          rw [nnP_some]
          refine ldS_of (d0 hd8) ?_
          refine (g7.rL.drw hd8).idx (by omega) (by simp; omega) fun ad had => ?_
          rw [Int.toNat_natCast, rowV_at l hltq] at had
          refine ldS_of had ?_
          have hll : (l q).l = (fs q).length := by have := (g7.rl q hltq).len; simpa using this
          refine lM hd8.drew fun ad had => ?_
          refine ldS_of had ?_
          have rm := (g7.om q hltq).rd
          refine (rm.drw hd8.drew).sl (l := 0) (u := (fs q).length) rfl (by rw [hll]; rfl) (by omega) (by simp) fun p hp _ => ?_
          rw [U8_part, List.drop_zero, Nat.sub_zero, List.take_left] at hp
          rw [nnP_some]
          refine ldS_of (d1 hd8.drew) ?_
          refine (g7.rW.drw hd8.drew).idx (by omega) (by simp; omega) fun ad had => ?_
          rw [Int.toNat_natCast, rowV_at c hltq] at had
          refine ldS_of had ?_
          refine same_ok hp ((g7.rc q hltq).drw hd8.drew) (by omega) fun w9 hd9 => ?_
          have hd9' := hd8.drew.trans hd9
          refine iteB_neg (by simp) ?_
          have hml : (m q).l = (fs q).length + t q := by have := rm.len; simpa using this
          have htq : t q = j := htj q hltq
          refine loopP_inv (fun st w10 => w10 = w9 ∧ ∃ r : Nat, st.1 = (((fs q).length + r : Nat) : Int) ∧ r ≤ t q) (fun st _ => (fs q).length + t q - st.1.toNat) ⟨rfl, 0, by simp [hll], Nat.zero_le _⟩ ?_
          rintro ⟨r0, u⟩ w10 next5 ⟨rfl, r, rfl, hr⟩ hnext5
          simp only
          refine lM hd9' fun ad had => ?_
          refine ldS_of had ?_
          refine iteB_intro (fun hz => ?_) (fun hz => ?_)
          · have hltr : r < t q := by simp [hml] at hz; omega
            refine lM hd9' fun ad had => ?_
            refine ldS_of had ?_
            refine (rm.drw hd9').idx (by omega) (by simp; omega) fun ad had => ?_
            rw [Int.toNat_natCast, U8_at _ (by simp; omega)] at had
            refine ldI_of had ?_
            have e1 : (fs q ++ List.replicate (t q) (cc q))[(fs q).length + r]'(by simp; omega) = cc q := by
              rw [List.getElem_append_right (by omega)]
              simp
            rw [e1, byte_cc q (by omega)]
            refine iteB_neg (by simp) ?_
            rw [wrap_i64 (by omega)]
            exact hnext5 _ _ ⟨rfl, r + 1, by simp; omega, hltr⟩ (by simp; omega)
          · rw [wrap_i64 (by omega)]
            exact hnext4 _ _ ⟨q + 1, by simp, hltq, hd9'⟩ (by simp; omega)
        · refine whole_ok (g7.blk.drw hd8) (g7.rL.drw hd8) (g7.rW.drw hd8) (fun i hi => (g7.rl i hi).drw hd8) (fun i hi => (g7.rc i hi).drw hd8) (fun i hi => by have := h6.few i hi; omega) hn fun w9 hd9 => ?_
          exact hK w9 (hc7.step ((hd8.trans hd9).chg _) fun _ _ h => h)
end Go.Proofs.Ytmadhcoeiclalaa
