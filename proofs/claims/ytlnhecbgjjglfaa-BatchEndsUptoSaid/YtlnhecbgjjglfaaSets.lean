/- Sets: shelf.sets. -/
import Derived.Test.YtlnhecbgjjglfaaApartB
set_option linter.unusedVariables false
set_option linter.unusedSimpArgs false
namespace Go.Proofs.Ytlnhecbgjjglfaa
open Go Go.Sh Go.Pl Go.RowKit
/-- A list of sets that was handed out, all of it memory of its own. -/
structure SetsO (lo hi : Nat) (w : World) (l : Slc) (rows : List Slc) (vss : List (List Value)) : Prop where
  own : Own w 30 1 l (rows.map slV)
  len : rows.length = vss.length
  row : ∀ (i : Nat) (r : Slc) (vs : List Value), rows[i]? = some r → vss[i]? = some vs → Own w 70 2 r vs
  inl : ∀ k, blkOf l = some k → lo ≤ k ∧ k < hi
  inr : ∀ (i : Nat) (r : Slc) (k : Nat), rows[i]? = some r → blkOf r = some k → lo ≤ k ∧ k < hi
  dl : ∀ (i : Nat) (r : Slc) (k : Nat), rows[i]? = some r → blkOf r = some k → blkOf l ≠ some k
  dr : ∀ (i j : Nat) (r q : Slc) (k : Nat), rows[i]? = some r → rows[j]? = some q → blkOf r = some k → blkOf q = some k → i = j
theorem SetsO.chg {lo hi : Nat} {S : Nat → Prop} {w w' : World} {l : Slc} {rows : List Slc} {vss : List (List Value)} (h : SetsO lo hi w l rows vss) (hc : Chg S w w') (hS : ∀ k, lo ≤ k → k < hi → ¬ S k) : SetsO lo hi w' l rows vss :=
  ⟨h.own.chg hc fun k hk => hS k (h.inl k hk).1 (h.inl k hk).2, h.len, fun i r vs h1 h2 => (h.row i r vs h1 h2).chg hc fun k hk => hS k (h.inr i r k h1 hk).1 (h.inr i r k h1 hk).2, h.inl, h.inr, h.dl, h.dr⟩
theorem TKKK : ElT Try.prog 34 26 (.slice none 0 0) 1 24 := ⟨by kernel_rfl, by kernel_rfl, rfl, by decide⟩
set_option maxHeartbeats 1000000 in
set_option maxRecDepth 20000 in
theorem sets_ok {D : Nat → Prop} {k0 lo hi : Nat} {f : Nat → Nat} {G : Nat → GS} {l : Slc} {rows : List Slc} {vss : List (List Value)} {w : World} {K : World → Prop} (h : Shf T6 D w k0 f G) (hD : ∀ k, D k → k < w.heap.size) (hl : SetsO lo hi w l rows vss) (hdis : ∀ k, lo ≤ k → k < hi → ¬ D k) (hhi : hi ≤ w.heap.size)
    (few : (G 3).rows.length ≤ 1000 ∧ (G 1).rows.length + rows.length ≤ 100000000)
    (hK : ∀ D' f' G' w', Shf T6 D' w' k0 f' G' → (∀ k, D' k → k < w'.heap.size) → (∀ k, D' k → D k ∨ (lo ≤ k ∧ k < hi) ∨ w.heap.size ≤ k) → (∀ q, q ≠ 1 → q ≠ 3 → (G' q).rows = (G q).rows) → (G' 3).rows = (G 3).rows ++ [l] → (G' 1).rows = (G 1).rows ++ rows →
      Chg (fun k => D k ∨ (lo ≤ k ∧ k < hi) ∨ w.heap.size ≤ k) w w' → w.heap.size ≤ w'.heap.size → K w') : c_preludelaw06_shelf_sets (some ⟨k0, 0, none⟩) l w K := by
  refine sim_preludelaw06_shelf_sets ?_
  unfold sh_preludelaw06_shelf_sets
  rw [nnP_some]
  refine h.hd (o := 3) (by omega) ?_
  refine newB fun b w1 hc1 hb1 hk1 hs1 => ?_
  have hll := hl.own.len
  simp only [List.length_map, Nat.mul_one] at hll
  refine (h.ch0 hc1).push (o := 3) (r := l) (vs := rows.map slV) TKKK (by omega) hb1 (fun hh => by have := hD b hh; omega) (hl.own.ch hc1 fun _ _ h => h) (fun k hk => hdis k (hl.inl k hk).1 (hl.inl k hk).2) (fun k hk => by have := hD k hk; omega) (by omega) fun f2 hs2 w2 h2 hc2 hz2 => ?_
  have hl2 : SetsO lo hi w2 l rows vss := (hl.chg (S := fun _ => False) (Chg.mono (show Chg Nil w w1 from hc1) fun _ _ h => h.elim) fun _ _ _ h => h).chg hc2 hdis
  have dn0 : ∀ k, ¬ (lo ≤ k ∧ k < hi ∧ D k) := fun k ⟨a, b, c⟩ => hdis k a b c
  have z1 := hc1.size
  let F : Nat → Prop := fun k => D k ∨ (lo ≤ k ∧ k < hi) ∨ w.heap.size ≤ k
  have hc02 : Chg F w w2 := (Chg.mono (show Chg Nil w w1 from hc1) fun _ _ h => h.elim).step (Chg.mono hc2 fun k _ hk => .inl hk) fun _ _ h => h
  refine loopP_inv (fun st w3 => ∃ (i : Nat) (Dq : Nat → Prop) (f3 : Nat → Nat) (G3 : Nat → GS), st.1 = (i : Int) ∧ i ≤ rows.length ∧ Shf T6 Dq w3 k0 f3 G3 ∧ (G3 3).rows = (G 3).rows ++ [l] ∧ (G3 3).vss[(G 3).rows.length]? = some (rows.map slV) ∧ (G3 1).rows = (G 1).rows ++ rows.take i ∧ (∀ q, q ≠ 1 → q ≠ 3 → (G3 q).rows = (G q).rows) ∧
      (∀ k, Dq k → k < w3.heap.size) ∧ (∀ k, Dq k → F k) ∧ (∀ (j : Nat) (r : Slc) (k : Nat), i ≤ j → rows[j]? = some r → blkOf r = some k → ¬ Dq k) ∧ (∀ (j : Nat) (r : Slc) (vs : List Value), i ≤ j → rows[j]? = some r → vss[j]? = some vs → Own w3 70 2 r vs) ∧ Chg F w w3 ∧ w.heap.size ≤ w3.heap.size) (fun st _ => rows.length - st.1.toNat)
    ⟨0, _, f2, _, rfl, Nat.zero_le _, h2, ?_, ?_, ?_, ?_, ?_, ?_, ?_, ?_, hc02, by omega⟩ ?_
  · rw [upG_same]; rfl
  · rw [upG_same]
    show ((G 3).vss ++ [rows.map slV])[_]? = _
    rw [h.len 3 (by omega), List.getElem?_append_right (Nat.le_refl _), Nat.sub_self]; rfl
  · rw [upG_ne (by omega)]; simp
  · intro q h1 h3; rw [upG_ne h3]
  · intro k hk
    rcases hk with hk | hk | hk
    · have := hD k hk; omega
    · have := (hl.inl k hk).2; omega
    · exact hk.2
  · intro k hk
    rcases hk with hk | hk | hk
    · exact .inl hk
    · exact .inr (.inl (hl.inl k hk))
    · exact .inr (.inr (by omega))
  · intro j r k _ hr hk hd
    have a := hl.inr j r k hr hk
    rcases hd with hd | hd | hd
    · exact hdis k a.1 a.2 hd
    · exact hl.dl j r k hr hk hd
    · omega
  · intro j r vs _ h1 h3
    exact hl2.row j r vs h1 h3
  rintro ⟨i0, u⟩ w3 next ⟨i, Dq, f3, G3, rfl, hi, h3, e3, v3, e1, eq, bq, fq, nq, oq, hc3, hz3⟩ hnext
  dsimp only
  refine iteB_dec (fun hh => ?_) (fun hh => ?_)
  · have hlt : i < rows.length := by omega
    have hr : rows[i]? = some rows[i] := by simp
    have hv : vss[i]? = some (vss[i]'(by rw [← hl.len]; exact hlt)) := by simp
    generalize vss[i]'(by rw [← hl.len]; exact hlt) = vs at hv
    have dn := Ch.drew w3
    have h4 := h3.ch0 dn
    rw [nnP_some]
    refine h4.hd (o := 1) (by omega) ?_
    have hlo : Own w3.drew 30 1 l (rows.map slV) := h4.row 3 (by omega) (G 3).rows.length l _ (by rw [e3]; simp) v3
    refine hlo.rd.idx (by omega) (by simp; omega) fun ad had => ?_
    refine ldS_of (s := rows[i]) (by rw [had, Int.toNat_natCast, List.getElem?_map, hr]; rfl) ?_
    refine newB fun b2 w4 hc4 hb4 hk4 hs4 => ?_
    have h5 := h4.ch0 hc4
    have hd4 : w3.drew.heap.size = w3.heap.size := rfl
    refine ⟨by rw [add_mk, h5.blk.cell]; rfl, ?_⟩
    have l1 : (G3 1).rows.length ≤ 1000000000 := by rw [e1, List.length_append, List.length_take]; omega
    refine h5.push (o := 1) (r := rows[i]) (vs := vs) TKK (by omega) hb4 (fun hb => by have := bq b2 hb; omega) (((oq i _ vs (Nat.le_refl _) hr hv).ch dn fun _ _ h => h).ch hc4 fun _ _ h => h) (fun k hk => nq i _ k (Nat.le_refl _) hr hk) (fun k hk => by have := bq k hk; omega) l1 fun f6 hs6 w6 h6 hc6 hz6 => ?_
    have hc36 : Chg Dq w3 w6 := (Chg.mono (show Chg Nil w3 w4 from dn.tr hc4) fun _ _ h => h.elim).step hc6 fun _ _ h => h
    rw [wrap_i64 (by omega)]
    refine hnext _ _ ⟨i + 1, _, f6, _, by simp, hlt, h6, ?_, ?_, ?_, ?_, ?_, ?_, ?_, ?_, hc3.step hc36 fun k _ hk => fq k hk, by omega⟩ (by simp; omega)
    · rw [upG_ne (by omega)]; exact e3
    · rw [upG_ne (by omega)]; exact v3
    · rw [upG_same]
      show (G3 1).rows ++ [rows[i]] = _
      rw [e1, List.append_assoc, List.take_succ_eq_append_getElem hlt]
    · intro q g1 g3; rw [upG_ne g1]; exact eq q g1 g3
    · intro k hk
      rcases hk with hk | hk | hk
      · have := bq k hk; omega
      · have := (hl.inr i _ k hr hk).2; omega
      · exact hk.2
    · intro k hk
      rcases hk with hk | hk | hk
      · exact fq k hk
      · exact .inr (.inl (hl.inr i _ k hr hk))
      · exact .inr (.inr (by omega))
    · intro j r k hj hrj hk hd
      rcases hd with hd | hd | hd
      · exact nq j r k (by omega) hrj hk hd
      · have := hl.dr j i r _ k hrj hr hk hd; omega
      · have := (hl.inr j r k hrj hk).2; omega
    · intro j r vs' hj g1 g2
      exact (oq j r vs' (by omega) g1 g2).chg hc36 fun k hk => nq j r k (by omega) g1 hk
  · have hie : i = rows.length := by omega
    subst hie
    rw [List.take_length] at e1
    exact hK Dq f3 G3 w3 h3 bq fq eq e3 e1 hc3 hz3
end Go.Proofs.Ytlnhecbgjjglfaa
