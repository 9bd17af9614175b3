/- BDecL: a batch is laid on the shelf. -/
import Derived.Test.YtlnhecbgjjglfaaBDecR
import Derived.Test.YtlnhecbgjjglfaaBEncL
set_option linter.unusedVariables false
set_option linter.unusedSimpArgs false
namespace Go.Proofs.Ytlnhecbgjjglfaa
open Go Go.Sh Go.Pl Go.RowKit Go.Num
theorem TBB : ElT Try.prog 32 22 (.slice none 0 0) 1 24 := ⟨by kernel_rfl, by kernel_rfl, rfl, by decide⟩
theorem TII : ElT Try.prog 33 64 (.slice none 0 0) 1 24 := ⟨by kernel_rfl, by kernel_rfl, rfl, by decide⟩
theorem own_tx {w : World} {s : Slc} {ts : List TxR} (h : Own w 66 4 s (ts.flatMap TxR.cells)) {i : Nat} {t : TxR} (hi : ts[i]? = some t) {i' : Int} (he : i' = (i : Int)) {K : Addr → Prop}
    (hK : ∀ a : Addr, (∀ (j : Nat) (v : Value), j < 4 → t.cells[j]? = some v → w.cell? (a.add j) = some v) → K a) : idxP s.a s.l i' 4 K := by
  subst he
  have hlt := (List.getElem?_eq_some_iff.1 hi).1
  have hl := h.len
  rw [cells_len] at hl
  rcases h.2 with ⟨hs, hn⟩ | ⟨g, cap, cur, hs, hb, hg, hnc, hcm, hcs, htake⟩
  · injection hs with h1 h2; omega
  · have h1 : s.a = some ⟨g, 0, none⟩ := by injection hs
    have key := World.ownsRow.cells h (g := g) (by rw [h1]; rfl)
    refine idxP_intro (by omega) (by omega) h1 (hK _ fun j v hj hv => ?_)
    rw [Int.toNat_natCast, Deep.add_add]
    exact key _ _ (by rw [cells_at ts i j t hi hj]; exact hv)
def rw2 (t : TxR) : List Slc := [t.rs, t.ws]
theorem take_map {α β : Type} (f : α → β) {l : List α} {i : Nat} {x : α} (h : l[i]? = some x) : (l.take (i + 1)).map f = (l.take i).map f ++ [f x] := by
  have hlt := (List.getElem?_eq_some_iff.1 h).1
  rw [List.take_succ_eq_append_getElem hlt, List.map_append]
  simp [(List.getElem?_eq_some_iff.1 h).2]
theorem take_flat {α β : Type} (f : α → List β) {l : List α} {i : Nat} {x : α} (h : l[i]? = some x) : (l.take (i + 1)).flatMap f = (l.take i).flatMap f ++ f x := by
  have hlt := (List.getElem?_eq_some_iff.1 h).1
  rw [List.take_succ_eq_append_getElem hlt, List.flatMap_append]
  simp [(List.getElem?_eq_some_iff.1 h).2]
theorem rw2_len : ∀ ts : List TxR, (ts.flatMap rw2).length = 2 * ts.length
  | [] => rfl
  | t :: ts => by rw [List.flatMap_cons, List.length_append, rw2_len ts, List.length_cons]; simp [rw2]; omega
set_option maxHeartbeats 4000000 in
set_option maxRecDepth 20000 in
theorem batchS_ok {D : Nat → Prop} {k0 lo : Nat} {f : Nat → Nat} {G : Nat → GS} {l : Slc} {ts : List TxR} {w : World} {K : World → Prop} (h : Shf T6 D w k0 f G) (hD : ∀ k, D k → k < w.heap.size) (hl : DO lo w l ts) (hdis : ∀ k, (blkOf l = some k ∨ ∃ t ∈ ts, t.has k) → ¬ D k)
    (few : (G 0).rows.length ≤ 1000 ∧ (G 1).rows.length + 2 * ts.length ≤ 100000000 ∧ (G 2).rows.length + ts.length ≤ 100000000)
    (hK : ∀ D' f' G' w', Shf T6 D' w' k0 f' G' → (∀ k, D' k → k < w'.heap.size) → (∀ k, D' k → D k ∨ (blkOf l = some k ∨ ∃ t ∈ ts, t.has k) ∨ w.heap.size ≤ k) → (∀ q, q ≠ 0 → q ≠ 1 → q ≠ 2 → (G' q).rows = (G q).rows) → (G' 0).rows = (G 0).rows ++ [l] → (G' 1).rows = (G 1).rows ++ ts.flatMap rw2 → (G' 2).rows = (G 2).rows ++ ts.map (·.ag) →
      Chg (fun k => D k ∨ (blkOf l = some k ∨ ∃ t ∈ ts, t.has k) ∨ w.heap.size ≤ k) w w' → w.heap.size ≤ w'.heap.size → K w') : c_preludelaw06_shelf_batch (some ⟨k0, 0, none⟩) l w K := by
  refine sim_preludelaw06_shelf_batch ?_
  unfold sh_preludelaw06_shelf_batch
  let P : Nat → Prop := fun k => blkOf l = some k ∨ ∃ t ∈ ts, t.has k
  let F : Nat → Prop := fun k => D k ∨ P k ∨ w.heap.size ≤ k
  rw [nnP_some]
  refine h.hd (o := 0) (by omega) ?_
  refine newB fun b w1 hc1 hb1 hk1 hs1 => ?_
  have hll := hl.len
  have hlt := hl.lts
  have hls := hl.own.ltS
  refine (h.ch0 hc1).push (o := 0) (r := l) (vs := ts.flatMap TxR.cells) TBB (by omega) hb1 (fun hh => by have := hD b hh; omega) (hl.own.ch hc1 fun _ _ h => h) (fun k hk => hdis k (.inl hk)) (fun k hk => by have := hD k hk; omega) (by omega) fun f2 hs2 w2 h2 hc2 hz2 => ?_
  have z1 := hc1.size
  have hl1 := hl.ch0 hc1
  have hc02 : Chg F w w2 := (Chg.mono (show Chg Nil w w1 from hc1) fun _ _ h => h.elim).step (Chg.mono hc2 fun k _ hk => .inl hk) fun _ _ h => h
  have step0 : ∀ {w3 : World}, True := trivial
  refine loopP_inv (fun st w3 => ∃ (i : Nat) (Dq : Nat → Prop) (f3 : Nat → Nat) (G3 : Nat → GS), st.1 = (i : Int) ∧ i ≤ ts.length ∧ Shf T6 Dq w3 k0 f3 G3 ∧ (G3 0).rows = (G 0).rows ++ [l] ∧ (G3 0).vss[(G 0).rows.length]? = some (ts.flatMap TxR.cells) ∧ (G3 1).rows = (G 1).rows ++ (ts.take i).flatMap rw2 ∧ (G3 2).rows = (G 2).rows ++ (ts.take i).map (·.ag) ∧ (∀ q, q ≠ 0 → q ≠ 1 → q ≠ 2 → (G3 q).rows = (G q).rows) ∧
      (∀ k, Dq k → k < w3.heap.size) ∧ (∀ k, Dq k → F k) ∧ (∀ (j : Nat) (t : TxR) (k : Nat), i ≤ j → ts[j]? = some t → t.has k → ¬ Dq k) ∧ (∀ (j : Nat) (t : TxR), i ≤ j → ts[j]? = some t → TxN lo w3 t.x t.ag t.rs t.ws) ∧ Chg F w w3 ∧ w.heap.size ≤ w3.heap.size) (fun st _ => ts.length - st.1.toNat)
    ⟨0, _, f2, _, rfl, Nat.zero_le _, h2, ?_, ?_, ?_, ?_, ?_, ?_, ?_, ?_, ?_, hc02, by omega⟩ ?_
  · rw [upG_same]; rfl
  · rw [upG_same]
    show ((G 0).vss ++ [ts.flatMap TxR.cells])[_]? = _
    rw [h.len 0 (by omega), List.getElem?_append_right (Nat.le_refl _), Nat.sub_self]; rfl
  · rw [upG_ne (by omega)]; simp
  · rw [upG_ne (by omega)]; simp
  · intro q h0 h1 h3; rw [upG_ne h0]
  · intro k hk
    rcases hk with hk | hk | hk
    · have := hD k hk; omega
    · have := hls k hk; omega
    · exact hk.2
  · intro k hk
    rcases hk with hk | hk | hk
    · exact .inl hk
    · exact .inr (.inl (.inl hk))
    · exact .inr (.inr (by omega))
  · intro j t k _ ht hk hd
    have hm := List.mem_of_getElem? ht
    rcases hd with hd | hd | hd
    · exact hdis k (.inr ⟨t, hm, hk⟩) hd
    · exact hl.ds t hm k hd hk
    · have := (hlt t hm k hk).2; omega
  · intro j t _ ht
    have hm := List.mem_of_getElem? ht
    have r := hl1.row t hm
    have no : ∀ k, t.has k → ¬ D k := fun k hk => hdis k (.inr ⟨t, hm, hk⟩)
    exact ⟨r.ia.chg hc2 fun k hk => no k (.inl hk), r.ir.chg hc2 fun k hk => no k (.inr (.inl hk)), r.iw.chg hc2 fun k hk => no k (.inr (.inr hk)), r.ga, r.gr, r.gw, r.ar, r.aw, r.rw_⟩
  rintro ⟨i0, u⟩ w3 next ⟨i, Dq, f3, G3, rfl, hi, h3, e0, v0, e1, e2, eq, bq, fq, nq, oq, hc3, hz3⟩ hnext
  dsimp only
  refine iteB_dec (fun hh => ?_) (fun hh => ?_)
  · have hilt : i < ts.length := by omega
    obtain ⟨t, ht⟩ : ∃ t, ts[i]? = some t := ⟨ts[i], by simp⟩
    have hm := List.mem_of_getElem? ht
    have tN := oq i t (Nat.le_refl _) ht
    have tq := nq i t
    have tlt : ∀ k, t.has k → k < w.heap.size := fun k hk => (hlt t hm k hk).2
    have Tk := fun k (hk : t.has k) => nq i t k (Nat.le_refl _) ht hk
    have len1 : (G3 1).rows.length ≤ 100000000 := by
      rw [e1, List.length_append, rw2_len, List.length_take]; omega
    have len2 : (G3 2).rows.length ≤ 100000000 := by rw [e2, List.length_append, List.length_map, List.length_take]; omega
    have lrow : ∀ {w' : World} {Dz : Nat → Prop} {fz : Nat → Nat} {Gz : Nat → GS}, Shf T6 Dz w' k0 fz Gz → (Gz 0) = (G3 0) → Own w' 66 4 l (ts.flatMap TxR.cells) := fun hz hg => hz.row 0 (by omega) (G 0).rows.length l _ (by rw [hg, e0]; simp) (by rw [hg]; exact v0)
    -- the args
    have dn := Ch.drew w3
    have h4 := h3.ch0 dn
    rw [nnP_some]
    refine h4.hd (o := 2) (by omega) ?_
    refine own_tx (lrow h4 rfl) ht rfl fun a ha => ldS_of (s := t.ag) (ha 1 _ (by omega) rfl) ?_
    refine newB fun b2 w4 hc4 hb4 hk4 hs4 => ?_
    have zd : w3.drew.heap.size = w3.heap.size := rfl
    have h5 := h4.ch0 hc4
    refine ⟨by rw [add_mk, h5.blk.cell]; rfl, ?_⟩
    refine h5.push (o := 2) (r := t.ag) (vs := Is .i64 t.x.args) TII (by omega) hb4 (fun hb => by have := bq b2 hb; omega) ((tN.ia.ch dn fun _ _ h => h).ch hc4 fun _ _ h => h) (fun k hk => Tk k (.inl hk)) (fun k hk => by have := bq k hk; omega) (by omega) fun f6 hs6 w6 h6 hc6 hz6 => ?_
    have hc36 : Chg Dq w3 w6 := (Chg.mono (show Chg Nil w3 w4 from dn.tr hc4) fun _ _ h => h.elim).step hc6 fun _ _ h => h
    -- the reads
    have dn6 := Ch.drew w6
    have h7 := h6.ch0 dn6
    rw [nnP_some]
    have zd6 : w6.drew.heap.size = w6.heap.size := rfl
    refine h7.hd (o := 1) (by omega) ?_
    refine own_tx (lrow h7 (upG_ne (by omega))) ht rfl fun a ha => ldS_of (s := t.rs) (ha 2 _ (by omega) rfl) ?_
    refine newB fun b3 w8 hc8 hb8 hk8 hs8 => ?_
    have h8 := h7.ch0 hc8
    refine ⟨by rw [add_mk, h8.blk.cell]; rfl, ?_⟩
    have tR6 : Own w6 70 2 t.rs (flat t.x.reads) := tN.ir.chg hc36 fun k hk => Tk k (.inr (.inl hk))
    refine h8.push (o := 1) (r := t.rs) (vs := flat t.x.reads) TKK (by omega) hb8 (fun hb => by
        rcases hb with hb | hb | hb
        · have := bq b3 hb; omega
        · have := tlt b3 (.inl hb); omega
        · omega) ((tR6.ch dn6 fun _ _ h => h).ch hc8 fun _ _ h => h) (fun k hk hd => by
        rcases hd with hd | hd | hd
        · exact Tk k (.inr (.inl hk)) hd
        · exact tN.ar k hd hk
        · have := tlt k (.inr (.inl hk)); omega) (fun k hk => by
        rcases hk with hk | hk | hk
        · have := bq k hk; omega
        · have := tlt k (.inl hk); omega
        · omega) (by rw [upG_ne (by omega)]; omega) fun f9 hs9 w9 h9 hc9 hz9 => ?_
    -- the writes
    have dn9 := Ch.drew w9
    have h10 := h9.ch0 dn9
    rw [nnP_some]
    have zd9 : w9.drew.heap.size = w9.heap.size := rfl
    refine h10.hd (o := 1) (by omega) ?_
    refine own_tx (lrow h10 (by rw [upG_ne (by omega), upG_ne (by omega)])) ht rfl fun a ha => ldS_of (s := t.ws) (ha 3 _ (by omega) rfl) ?_
    refine newB fun b4 w11 hc11 hb11 hk11 hs11 => ?_
    have h11 := h10.ch0 hc11
    refine ⟨by rw [add_mk, h11.blk.cell]; rfl, ?_⟩
    have cw69 : Chg (fun k => Dq k ∨ blkOf t.ag = some k ∨ w3.heap.size ≤ k) w3 w9 := (Chg.mono hc36 fun k _ hk => .inl hk).step ((Chg.mono (show Chg Nil w6 w8 from dn6.tr hc8) fun _ _ h => h.elim).step hc9 fun _ _ h => h) fun k hk hd => by
      rcases hd with hd | hd | hd
      · exact .inl hd
      · exact .inr (.inl hd)
      · omega
    have tW9 : Own w9 70 2 t.ws (flat t.x.writes) := tN.iw.chg cw69 fun k hk hd => by
      rcases hd with hd | hd | hd
      · exact Tk k (.inr (.inr hk)) hd
      · exact tN.aw k hd hk
      · have := tlt k (.inr (.inr hk)); omega
    refine h11.push (o := 1) (r := t.ws) (vs := flat t.x.writes) TKK (by omega) hb11 (fun hb => by
        rcases hb with (hb | hb | hb) | hb | hb
        · have := bq b4 hb; omega
        · have := tlt b4 (.inl hb); omega
        · omega
        · have := tlt b4 (.inr (.inl hb)); omega
        · omega) ((tW9.ch dn9 fun _ _ h => h).ch hc11 fun _ _ h => h) (fun k hk hd => by
        have kt := tlt k (.inr (.inr hk))
        rcases hd with (hd | hd | hd) | hd | hd
        · exact Tk k (.inr (.inr hk)) hd
        · exact tN.aw k hd hk
        · omega
        · exact tN.rw_ k hd hk
        · omega) (fun k hk => by
        rcases hk with (hk | hk | hk) | hk | hk
        · have := bq k hk; omega
        · have := tlt k (.inl hk); omega
        · omega
        · have := tlt k (.inr (.inl hk)); omega
        · omega) (by rw [upG_same]; show ((G3 1 |> fun g => upG G3 2 ((G3 2).push hs6 t.ag _) 1).rows ++ [t.rs]).length ≤ _; simp [upG_ne]; omega) fun fz hsz wz hz hcz hzz => ?_
    have cwz : Chg (fun k => Dq k ∨ t.has k ∨ w3.heap.size ≤ k) w3 wz := (Chg.mono cw69 fun k _ hd => by
      rcases hd with hd | hd | hd
      · exact .inl hd
      · exact .inr (.inl (.inl hd))
      · exact .inr (.inr hd)).step ((Chg.mono (show Chg Nil w9 w11 from dn9.tr hc11) fun _ _ h => h.elim).step hcz fun _ _ h => h) fun k hk hd => by
      rcases hd with (hd | hd | hd) | hd | hd
      · exact .inl hd
      · exact .inr (.inl (.inl hd))
      · omega
      · exact .inr (.inl (.inr (.inl hd)))
      · omega
    have five : ∀ k, (((Dq k ∨ blkOf t.ag = some k ∨ (w4.heap.size ≤ k ∧ k < w6.heap.size)) ∨ blkOf t.rs = some k ∨ (w8.heap.size ≤ k ∧ k < w9.heap.size)) ∨ blkOf t.ws = some k ∨ (w11.heap.size ≤ k ∧ k < wz.heap.size)) → Dq k ∨ t.has k ∨ (w3.heap.size ≤ k ∧ k < wz.heap.size) := fun k hd => by
      rcases hd with ((hd | hd | hd) | hd | hd) | hd | hd
      · exact .inl hd
      · exact .inr (.inl (.inl hd))
      · exact .inr (.inr (by omega))
      · exact .inr (.inl (.inr (.inl hd)))
      · exact .inr (.inr (by omega))
      · exact .inr (.inl (.inr (.inr hd)))
      · exact .inr (.inr (by omega))
    rw [wrap_i64 (by omega)]
    refine hnext _ _ ⟨i + 1, _, fz, _, by simp, hilt, hz, ?_, ?_, ?_, ?_, ?_, fun k hk => ?_, fun k hk => ?_, fun j t' k hj ht' hk hd => ?_, fun j t' hj ht' => ?_, hc3.step cwz fun k hk hd => ?_, by omega⟩ (by simp; omega)
    · rw [upG_ne (by omega), upG_ne (by omega), upG_ne (by omega)]; exact e0
    · rw [upG_ne (by omega), upG_ne (by omega), upG_ne (by omega)]; exact v0
    · rw [upG_same, upG_same]
      show ((upG G3 2 _ 1).rows ++ [t.rs]) ++ [t.ws] = _
      rw [upG_ne (by omega), e1, take_flat _ ht]
      simp [rw2]
    · rw [upG_ne (by omega), upG_ne (by omega), upG_same]
      show (G3 2).rows ++ [t.ag] = _
      rw [e2, take_map _ ht]
      simp
    · intro q q0 q1 q2
      rw [upG_ne q1, upG_ne q1, upG_ne q2]; exact eq q q0 q1 q2
    · rcases five k hk with hd | hd | hd
      · have := bq k hd; omega
      · have := tlt k hd; omega
      · omega
    · rcases five k hk with hd | hd | hd
      · exact fq k hd
      · exact .inr (.inl (.inr ⟨t, hm, hd⟩))
      · exact .inr (.inr (by omega))
    · have kt := (hlt t' (List.mem_of_getElem? ht') k hk).2
      rcases five k hd with hd | hd | hd
      · exact nq j t' k (by omega) ht' hk hd
      · have := hl.dt j i t' t ht' ht k hk hd; omega
      · omega
    · have r := oq j t' (by omega) ht'
      have no : ∀ k, t'.has k → ¬ (Dq k ∨ t.has k ∨ w3.heap.size ≤ k) := fun k hk hd => by
        have kt := (hlt t' (List.mem_of_getElem? ht') k hk).2
        rcases hd with hd | hd | hd
        · exact nq j t' k (by omega) ht' hk hd
        · have := hl.dt j i t' t ht' ht k hk hd; omega
        · omega
      exact ⟨r.ia.chg cwz fun k hk => no k (.inl hk), r.ir.chg cwz fun k hk => no k (.inr (.inl hk)), r.iw.chg cwz fun k hk => no k (.inr (.inr hk)), r.ga, r.gr, r.gw, r.ar, r.aw, r.rw_⟩
    · rcases hd with hd | hd | hd
      · exact fq k hd
      · exact .inr (.inl (.inr ⟨t, hm, hd⟩))
      · omega
  · have hie : i = ts.length := by omega
    subst hie
    rw [List.take_length] at e1 e2
    exact hK Dq f3 G3 w3 h3 bq fq eq e0 e1 e2 hc3 hz3
end Go.Proofs.Ytlnhecbgjjglfaa
