/- BDecB: batch.Decode. -/
import Derived.Test.YtlnhecbgjjglfaaDoorBDec
set_option linter.unusedVariables false
set_option linter.unusedSimpArgs false
namespace Go.Pl
open Go Go.Sh Go.RowKit
/-- A transaction in memory: its value and the headers of its lists. -/
structure TxR where
  x : Txm
  ag : Slc
  rs : Slc
  ws : Slc
def TxR.cells (t : TxR) : List Value := [.int .i64 t.x.proc, .slice t.ag.a t.ag.l t.ag.c, .slice t.rs.a t.rs.l t.rs.c, .slice t.ws.a t.ws.l t.ws.c]
def TxR.has (t : TxR) (k : Nat) : Prop := blkOf t.ag = some k ∨ blkOf t.rs = some k ∨ blkOf t.ws = some k
theorem cells_len : ∀ ts : List TxR, (ts.flatMap TxR.cells).length = ts.length * 4
  | [] => rfl
  | t :: ts => by rw [List.flatMap_cons, List.length_append, cells_len ts, List.length_cons]; simp [TxR.cells]; omega
theorem cells_at : ∀ (ts : List TxR) (i j : Nat) (t : TxR), ts[i]? = some t → j < 4 → (ts.flatMap TxR.cells)[i * 4 + j]? = t.cells[j]?
  | [], i, j, t, h, _ => by simp at h
  | u :: ts, 0, j, t, h, hj => by
    simp at h; subst h
    rw [List.flatMap_cons, List.getElem?_append_left (by simp [TxR.cells]; omega)]
    congr 1; omega
  | u :: ts, i + 1, j, t, h, hj => by
    rw [List.flatMap_cons, List.getElem?_append_right (by simp [TxR.cells]; omega), show (i + 1) * 4 + j - u.cells.length = i * 4 + j by simp [TxR.cells]; omega]
    exact cells_at ts i j t (by simpa using h) hj
theorem cells_one (ts : List TxR) : ∀ u ∈ ts.flatMap TxR.cells, u.oneCell' = true := by
  intro u hu
  obtain ⟨t, _, ht⟩ := List.mem_flatMap.1 hu
  simp [TxR.cells] at ht
  rcases ht with rfl | rfl | rfl | rfl <;> rfl
end Go.Pl
namespace Go.Proofs.YtlnhecbgjjglfaaDoor
open Go Go.Sh Go.Pl Go.RowKit Go.Num
/-- A batch that was handed out: all of it memory of its own, since there were lo blocks. -/
structure DO (lo : Nat) (w : World) (s : Slc) (ts : List TxR) : Prop where
  own : Own w 62 4 s (ts.flatMap TxR.cells)
  row : ∀ t ∈ ts, TxN lo w t.x t.ag t.rs t.ws
  gs : Ge lo (blkOf s)
  ds : ∀ t ∈ ts, ∀ k, blkOf s = some k → ¬ t.has k
  dt : ∀ (i j : Nat) (t u : TxR), ts[i]? = some t → ts[j]? = some u → ∀ k, t.has k → u.has k → i = j
section
variable {lo : Nat} {w w' : World} {s : Slc} {ts : List TxR}
theorem DO.chg {S : Nat → Prop} (h : DO lo w s ts) (hc : Chg S w w') (hS : ∀ k, S k → k < lo) : DO lo w' s ts :=
  ⟨h.own.chg hc fun k hk hs => by have := h.gs k hk; have := hS k hs; omega, fun t ht => (h.row t ht).chg hc hS, h.gs, h.ds, h.dt⟩
theorem DO.ch0 (h : DO lo w s ts) (hc : Ch [] w w') : DO lo w' s ts := h.chg (show Chg Nil w w' from hc) fun _ h => h.elim
theorem TxN.lt {x : Txm} {ag rs ws : Slc} (h : TxN lo w x ag rs ws) : ∀ k, (TxR.mk x ag rs ws).has k → lo ≤ k ∧ k < w.heap.size := fun k hk => by
  rcases hk with hk | hk | hk
  · exact ⟨h.ga k hk, h.ia.ltS k hk⟩
  · exact ⟨h.gr k hk, h.ir.ltS k hk⟩
  · exact ⟨h.gw k hk, h.iw.ltS k hk⟩
theorem DO.lts (h : DO lo w s ts) : ∀ t ∈ ts, ∀ k, t.has k → lo ≤ k ∧ k < w.heap.size := fun t ht k hk => (h.row t ht).lt k hk
theorem DO.nil (lo : Nat) (w : World) : DO lo w ⟨none, 0, 0⟩ [] := ⟨Own.nil _ _ _, by simp, (fun k hk => by cases hk), by simp, fun i j t u h => by simp at h⟩
theorem DO.len (h : DO lo w s ts) : s.l = ts.length := by
  have := h.own.len
  rw [cells_len] at this; omega
theorem TxN.le {m n : Nat} {x : Txm} {ag rs ws : Slc} (h : TxN m w x ag rs ws) (hn : n ≤ m) : TxN n w x ag rs ws :=
  ⟨h.ia, h.ir, h.iw, fun k hk => by have := h.ga k hk; omega, fun k hk => by have := h.gr k hk; omega, fun k hk => by have := h.gw k hk; omega, h.ar, h.aw, h.rw_⟩
theorem DO.tx (h : DO lo w s ts) {ad : Addr} (ha : s.a = some ad) {i : Nat} {t : TxR} (hi : ts[i]? = some t) : TxAt w (ad.add (i * 4)) t.x t.ag t.rs t.ws := by
  have hm : t ∈ ts := List.mem_of_getElem? hi
  have hN := h.row t hm
  have hcell : ∀ (j : Nat) (v : Value), j < 4 → t.cells[j]? = some v → w.cell? ((ad.add (i * 4)).add j) = some v := fun j v hj hv => by
    rcases h.own.2 with ⟨hs, hn⟩ | ⟨g, cap, cur, hs, hb, hg, hnc, hcm, hcs, htake⟩
    · injection hs with h1; rw [ha] at h1; cases h1
    · have h1 : s.a = some ⟨g, 0, none⟩ := by injection hs
      have key := World.ownsRow.cells h.own (g := g) (by rw [h1]; rfl)
      rw [ha] at h1
      cases h1
      rw [Deep.add_add]
      exact key _ _ (by rw [cells_at ts i j t hi hj]; exact hv)
  refine ⟨?_, hcell 1 _ (by omega) rfl, hcell 2 _ (by omega) rfl, hcell 3 _ (by omega) rfl, hN.ia.rd, hN.ir.rdC', hN.iw.rdC', hN.ia.none0, hN.ir.none0, hN.iw.none0⟩
  have := hcell 0 _ (by omega) rfl
  rwa [add_zero'] at this
theorem DO.rdB (h : DO lo w s ts) : RdB w s (ts.map (·.x)) := by
  have hl := h.len
  refine ⟨by simpa using hl, ?_, fun i x hx => ?_⟩
  · rcases h.own.2 with ⟨hs, hn⟩ | ⟨g, cap, cur, hs, hb, hg, hnc, hcm, hcs, htake⟩
    · injection hs with h1 h2 h3; rw [h2, h3]; exact Nat.le_refl _
    · injection hs with h1 h2 h3; rw [h3]; exact hnc
  · rw [List.getElem?_map] at hx
    cases ht : ts[i]? with
    | none => rw [ht] at hx; cases hx
    | some t =>
      rw [ht] at hx
      cases hx
      have hlt := (List.getElem?_eq_some_iff.1 ht).1
      cases ha : s.a with
      | none => have := (h.own.none0 ha).1; omega
      | some ad => exact ⟨ad, t.ag, t.rs, t.ws, rfl, h.tx ha ht⟩
/-- One more transaction behind it. -/
theorem DO.push {m : Nat} {t : TxR} {a : Nat} {K : Slc → World → Prop} (h : DO lo w s ts) (hm : lo ≤ m) (hs : Lt m (blkOf s)) (hts : ∀ u ∈ ts, ∀ k, u.has k → k < m) (hN : TxN m w t.x t.ag t.rs t.ws)
    (hb : Blk w a t.cells.toArray 62) (few : ts.length ≤ 1000000) (hmw : m ≤ w.heap.size)
    (hK : ∀ s' w', DO lo w' s' (ts ++ [t]) → Ch [blkOf s] w w' → (∀ k, blkOf s' = some k → blkOf s = some k ∨ w.heap.size ≤ k) → K s' w') :
    apP Tryd.prog #[25, 25] 25 [.slice s.a s.l s.c, .slice (some ⟨a, 0, none⟩) 1 1] w K := by
  have hl := h.len
  refine apP_own TTx (s := s) (x := ⟨some ⟨a, 0, none⟩, 1, 1⟩) (news := t.cells) h.own (fun h => by cases h) (by simp [TxR.cells]) (fun ad had j u hu => ?_) (fun u hu => cells_one [t] u (by simpa using hu)) (by simp only []; omega) (by simp only []; omega) fun s' w' ho hl' hc hblk hsz hnil => ?_
  · cases had
    rw [add_mk, Nat.zero_add, hb.cell]; simpa using hu
  have hc' : Ch [blkOf s] w w' := Ch.ofO hc
  have hf : ∀ k, blkOf s' = some k → blkOf s = some k ∨ w.heap.size ≤ k := fun k hk => by
    rcases hblk with g | g
    · left; rw [← g]; exact hk
    · rw [g] at hk; simp at hk; right; omega
  have hst : ∀ u ∈ ts, ∀ k, u.has k → ¬ inL [blkOf s] k := fun u hu k hk hin => h.ds u hu k (show some k = blkOf s from hin).symm hk
  have htm := hN.lt
  have hsn : ∀ k, t.has k → ¬ inL [blkOf s] k := fun k hk hin => by
    have := hs k (show some k = blkOf s from hin).symm
    have := (htm k hk).1; omega
  refine hK s' w' ⟨by rw [List.flatMap_append]; simpa using ho, fun u hu => ?_, fun k hk => ?_, fun u hu k hk hh => ?_, fun i j u v hu hv k h1 h2 => ?_⟩ hc' hf
  · rcases List.mem_append.1 hu with hu | hu
    · have r := h.row u hu
      exact ⟨r.ia.ch hc' fun k hk => hst u hu k (.inl hk), r.ir.ch hc' fun k hk => hst u hu k (.inr (.inl hk)), r.iw.ch hc' fun k hk => hst u hu k (.inr (.inr hk)), r.ga, r.gr, r.gw, r.ar, r.aw, r.rw_⟩
    · simp at hu; subst hu
      have r := hN.le hm
      exact ⟨r.ia.ch hc' fun k hk => hsn k (.inl hk), r.ir.ch hc' fun k hk => hsn k (.inr (.inl hk)), r.iw.ch hc' fun k hk => hsn k (.inr (.inr hk)), r.ga, r.gr, r.gw, r.ar, r.aw, r.rw_⟩
  · rcases hf k hk with g | g
    · exact h.gs k g
    · omega
  · rcases List.mem_append.1 hu with hu | hu
    · rcases hf k hk with g | g
      · exact h.ds u hu k g hh
      · have := (h.lts u hu k hh).2; omega
    · simp at hu; subst hu
      have := htm k hh
      rcases hf k hk with g | g
      · have := hs k g; omega
      · omega
  · have get : ∀ {i : Nat} {u : TxR}, (ts ++ [t])[i]? = some u → ts[i]? = some u ∨ (i = ts.length ∧ u = t) := fun {i u} hu => by
      rcases Nat.lt_or_ge i ts.length with g | g
      · rw [List.getElem?_append_left g] at hu; exact .inl hu
      · have : i = ts.length := by
          have := (List.getElem?_eq_some_iff.1 hu).1
          simp at this; omega
        subst this
        rw [List.getElem?_append_right (Nat.le_refl _), Nat.sub_self] at hu
        simp at hu
        exact .inr ⟨rfl, hu.symm⟩
    rcases get hu with g | ⟨g, rfl⟩ <;> rcases get hv with g' | ⟨g', rfl⟩
    · exact h.dt i j u v g g' k h1 h2
    · have a1 := hts u (List.mem_of_getElem? g) k h1
      have a2 := (htm k h2).1; omega
    · have a1 := hts v (List.mem_of_getElem? g') k h2
      have a2 := (htm k h1).1; omega
    · omega
end
theorem callable_D1 : callable Tryd.prog 19 = true := by kernel_rfl
abbrev decF (k1 k3 k5 : Nat) : Value := .func (.func 19) #[] #[.pointer (some ⟨k1, 0, none⟩), .pointer (some ⟨k3, 0, none⟩), .pointer (some ⟨k5, 0, none⟩)]
set_option maxRecDepth 20000 in
theorem dfN {k1 k3 k5 : Nat} {w : World} {K : World → Prop} (h : K w) : dfP Tryd.prog (decF k1 k3 k5) .returning w K :=
  dfP_of callable_D1 rfl (simN_batch_Decode_1 h) (fun v w' h => h.2)
theorem undBrk : Tryd.prog.underlying 71 = some (.struct (Tryd.prog.fieldsOf 71)) := by kernel_rfl
theorem assertBrk (a e : Int) (t : TypeId) (w : World) : (Instr.typeAssert (.iface 71 (.agg #[.int .i64 a, .int .i64 e])) t 71 true).run Tryd.prog w = .ok (.tuple #[.agg #[.int .i64 a, .int .i64 e], .bool true]) w := by
  simp [Instr.typeAssert, run_underlying' undBrk]
set_option maxRecDepth 20000 in
theorem dfB {k1 k3 k5 a : Nat} {e : Int} {c1 : Value} {c3 c5 : Int} {w : World} {K : World → Prop} (h1 : Blk w k1 #[c1] 25) (h3 : Blk w k3 #[.int .i64 c3] 3) (h5 : Blk w k5 #[.int .i64 c5] 43) (d13 : k1 ≠ k3) (d15 : k1 ≠ k5) (d35 : k3 ≠ k5)
    (hK : ∀ w', Chg (fun k => k = k1 ∨ k = k3 ∨ k = k5) w w' → Blk w' k1 #[.slice none 0 0] 25 → Blk w' k3 #[.int .i64 (a : Int)] 3 → Blk w' k5 #[.int .i64 e] 43 → K w') : dfP Tryd.prog (decF k1 k3 k5) (.panicking (brk a e)) w K := by
  refine dfP_of callable_D1 rfl (simR_batch_Decode_1 (x_0 := a) (x_1 := e) (older := []) (K := K) ?_) (fun v w' h => h.2)
  unfold shR_batch_Decode_1
  refine ⟨(a : Int), e, true, w, assertBrk _ _ _ _, ?_⟩
  refine newIn fun k7 w2 hc2 hb2 hk2 hs2 => ?_
  refine iteB_neg rfl ?_
  have l1 := h1.lt
  have l3 := h3.lt
  have l5 := h5.lt
  have dn := Ch.drew w2
  replace hb2 := hb2.ch0 dn
  replace h1 := (h1.ch0 hc2).ch0 dn
  replace h3 := (h3.ch0 hc2).ch0 dn
  replace h5 := (h5.ch0 hc2).ch0 dn
  have hc02 := hc2.tr dn
  refine ldI_b (o := 0) hb2 rfl (ldI_b (o := 1) hb2 rfl ?_)
  refine stB (o := 0) h1 (by simp) fun w3 hc3 hb3 _ => ?_
  have hb23 := hb2.ch hc3 (nin1' (by omega))
  refine ⟨by rw [add_mk, hb23.cell]; rfl, by rw [hb23.cell]; rfl, ?_⟩
  refine stB (o := 0) (h3.ch hc3 (nin1' (by omega))) (by simp) fun w4 hc4 hb4 _ => ?_
  have hb24 := hb23.ch hc4 (nin1' (by omega))
  refine ⟨by rw [add_mk, hb24.cell]; rfl, ?_⟩
  refine stB (o := 0) ((h5.ch hc3 (nin1' (by omega))).ch hc4 (nin1' (by omega))) (by simp) fun w5 hc5 hb5 _ => ?_
  have one : ∀ {k j : Nat}, inL [some k] j → j = k := fun h => by
    have h : some _ = some _ := h
    cases h; rfl
  refine hK w5 ?_ ((hb3.ch hc4 (nin1' (by omega))).ch hc5 (nin1' (by omega))) (hb4.ch hc5 (nin1' (by omega))) hb5
  refine (((Chg.mono (show Chg Nil w _ from hc02) fun _ _ h => h.elim).step hc3 fun j _ hj => .inl (one hj)).step hc4 fun j _ hj => .inr (.inl (one hj))).step hc5 fun j _ hj => .inr (.inr (one hj))
theorem rTxs_succ (bs : List UInt8) (n : Nat) (acc : List Txm) (at_ : Nat) : rTxs bs (n + 1) acc at_ = if (rTx bs at_).2.2 ≠ 0 then ([], (rTx bs at_).2.1, (rTx bs at_).2.2) else rTxs bs n (acc ++ [(rTx bs at_).1]) (rTx bs at_).2.1 := rfl
set_option maxHeartbeats 4000000 in
set_option maxRecDepth 20000 in
theorem bdec_ok {x : Slc} {bs : List UInt8} {w : World} {K : Slc → Int → Int → World → Prop} (hx : Rd w x (U8 bs)) (hl : bs.length ≤ 140737488351232)
    (hK : ∀ s ts w', DO w.heap.size w' s ts → ts.map (·.x) = (decB bs).1 → Ch [] w w' → K s ((decB bs).2.1 : Int) (decB bs).2.2 w') : c_batch_Decode x w K := by
  refine sim_batch_Decode ?_
  unfold sh_batch_Decode
  unfold decB at hK
  refine newB fun k1 w1 hc1 hb1 hk1 hs1 => ?_
  refine newB fun k3 w2 hc2 hb3 hk3 hs2 => ?_
  refine newB fun k5 w3 hc3 hb5 hk5 hs3 => ?_
  replace hb1 := (hb1.ch0 hc2).ch0 hc3
  replace hb3 := hb3.ch0 hc3
  replace hc3 := (hc1.tr hc2).tr hc3
  refine read_ok (hx.ch0 hc3) hl fun b s w4 hr4 hc4 hb4 hs4 hs4' => ?_
  have z3 := hc3.size
  replace hb1 := hb1.ch0 hc4
  replace hb3 := hb3.ch0 hc4
  replace hb5 := hb5.ch0 hc4
  have bb := hr4.blk.lt
  have hR4 : RB w4.heap.size w4 b s bs 0 := ⟨hr4, bb, hs4', Nat.le_refl _⟩
  refine newB fun k6 w5 hc5 hb6 hk6 hs5 => ?_
  refine stB (o := 0) hb6 (by simp) fun w6 hc6 hb6' hs6 => ?_
  have hb6 : Blk w6 k6 #[.pointer (some ⟨b, 0, none⟩)] 76 := hb6'
  have hc46 : Ch [] w4 w6 := hc5.trN hc6 (by omega)
  have hcw6 : Ch [] w w6 := hc3.tr (Ch.tr (show Ch [] w3 w4 from hc4) hc46)
  have z4 := (show Ch [] w3 w4 from hc4).size
  have z6 := hc46.size
  replace hb1 := hb1.ch0 hc46
  replace hb3 := hb3.ch0 hc46
  replace hb5 := hb5.ch0 hc46
  have hR6 := hR4.ch0 hc46
  -- what becomes of a panic
  have bad : ∀ (a : Nat) (e : Int) (w' : World), (∀ K' : Slc → Int → Int → World → Prop, (∀ s ts w', DO w.heap.size w' s ts → ts.map (·.x) = [] → Ch [] w w' → K' s (a : Int) e w') → (∀ s n m w', K' s n m w' → K s n m w') → True) → True := fun _ _ _ _ => trivial
  have pan : ∀ (a : Nat) (e : Int) (c1 : Value) (w' : World), (∀ w'', Ch [] w w'' → K ⟨none, 0, 0⟩ (a : Int) e w'') → Ch [] w w' → Blk w' k1 #[c1] 25 → Blk w' k3 #[.int .i64 0] 3 → Blk w' k5 #[.int .i64 0] 43 →
      dfP Tryd.prog (decF k1 k3 k5) (.panicking (brk a e)) w' fun w10 => ldS (⟨k1, 0, none⟩ : Addr) w10 fun s11 => ldI .i64 (⟨k3, 0, none⟩ : Addr) w10 fun n12 => ldI .i64 (⟨k5, 0, none⟩ : Addr) w10 fun n13 => K s11 n12 n13 w10 := fun a e c1 w' hk hc h1 h3 h5 => by
    refine dfB h1 h3 h5 (by omega) (by omega) (by omega) fun w'' hc'' g1 g3 g5 => ?_
    refine ldS_b (o := 0) (s := ⟨none, 0, 0⟩) g1 rfl (ldI_b (o := 0) g3 rfl (ldI_b (o := 0) g5 rfl ?_))
    exact hk w'' ((show Chg Nil w w' from hc).step hc'' fun j hj hjj => by omega)
  have nin : ∀ k, k ≠ b → ¬ inL [some b] k := fun k hk => nin1' hk
  refine ldP_b (o := 0) hb6 rfl ?_
  refine bupto_ok (most := 64) hR6 (by omega) (fun w7 he7 h7 hc7 hle7 => ?_) (fun w7 he7 hc7 => ?_)
  rotate_left
  · rw [if_pos he7] at hK
    refine pan 0 _ _ w7 (fun w'' hc'' => hK _ [] w'' (DO.nil _ _) rfl hc'') ?_ (hb1.ch hc7 (nin _ (by omega))) (hb3.ch hc7 (nin _ (by omega))) (hb5.ch hc7 (nin _ (by omega)))
    exact hcw6.trN hc7 (by omega)
  rw [if_neg (by omega)] at hK
  generalize (rUpto bs 0 0 64).1 = N at *
  generalize (rUpto bs 0 0 64).2.1 = a7 at *
  refine loopP_inv (fun st w8 => ∃ (i : Nat) (ts : List TxR) (l : Slc) (a : Nat), st.1 = (i : Int) ∧ i ≤ N ∧ ts.length = i ∧ RB w4.heap.size w8 b s bs a ∧ Ch [] w w8 ∧ w6.heap.size ≤ w8.heap.size ∧ Blk w8 k1 #[.slice l.a l.l l.c] 25 ∧ Blk w8 k3 #[.int .i64 0] 3 ∧ Blk w8 k5 #[.int .i64 0] 43 ∧ Blk w8 k6 #[.pointer (some ⟨b, 0, none⟩)] 76 ∧
      DO w6.heap.size w8 l ts ∧ rTxs bs N [] a7 = rTxs bs (N - i) (ts.map (·.x)) a) (fun st _ => N - st.1.toNat)
    ⟨0, [], ⟨none, 0, 0⟩, a7, rfl, Nat.zero_le _, rfl, h7, hcw6.trN hc7 (by omega), hc7.size, hb1.ch hc7 (nin _ (by omega)), hb3.ch hc7 (nin _ (by omega)), hb5.ch hc7 (nin _ (by omega)), hb6.ch hc7 (nin _ (by omega)), DO.nil _ _, rfl⟩ ?_
  rintro ⟨i0, u⟩ w8 next ⟨i, ts, l, a, rfl, hi, hts, h8, hcw8, z8, hb18, hb38, hb58, hb68, hD8, heq⟩ hnext
  dsimp only
  refine iteB_dec (fun hh => ?_) (fun hh => ?_)
  · have hlt : i < N := by omega
    obtain ⟨m, hm'⟩ : ∃ m, N - i = m + 1 := ⟨N - i - 1, by omega⟩
    have hm2 : N - (i + 1) = m := by omega
    rw [hm', rTxs_succ] at heq
    have dn := Ch.drew w8
    replace h8 := h8.ch0 dn
    replace hb18 := hb18.ch0 dn
    replace hb38 := hb38.ch0 dn
    replace hb58 := hb58.ch0 dn
    replace hb68 := hb68.ch0 dn
    replace hD8 := hD8.ch0 dn
    replace hcw8 := hcw8.tr dn
    have zd : w8.drew.heap.size = w8.heap.size := rfl
    generalize w8.drew = v8 at *
    refine ldS_b (o := 0) (s := l) hb18 rfl (ldP_b (o := 0) hb68 rfl ?_)
    refine btx_ok h8 (fun ag rs ws w9 he9 h9 hc9 hN9 => ?_) (fun w9 he9 hc9 => ?_)
    rotate_left
    · rw [if_pos he9] at heq
      rw [heq] at hK
      dsimp only at hK
      rw [if_pos he9] at hK
      exact pan _ _ _ w9 (fun w'' hc'' => hK _ [] w'' (DO.nil _ _) rfl hc'') (hcw8.trN hc9 (by omega)) (hb18.ch hc9 (nin _ (by omega))) (hb38.ch hc9 (nin _ (by omega))) (hb58.ch hc9 (nin _ (by omega)))
    rw [if_neg (by omega)] at heq
    generalize (rTx bs a).1 = x9 at *
    generalize (rTx bs a).2.1 = a9 at *
    have z9 := hc9.size
    have hcw9 := hcw8.trN hc9 (by omega)
    have hb19 := hb18.ch hc9 (nin _ (by omega))
    have hb39 := hb38.ch hc9 (nin _ (by omega))
    have hb59 := hb58.ch hc9 (nin _ (by omega))
    have hb69 := hb68.ch hc9 (nin _ (by omega))
    have hD9 := hD8.chg (show Chg (inL [some b]) v8 w9 from hc9) fun k hk => by
      have hk : some k = some b := hk
      cases hk; omega
    refine ⟨by rw [hb19.cell]; rfl, ?_⟩
    refine newB fun k10 w10 hc10 hb10 hk10 hs10 => ?_
    have hb1A := hb19.ch0 hc10
    refine ⟨by rw [hb1A.cell]; rfl, ?_⟩
    have hlD := hD8.lts
    have hls := hD8.own.ltS
    refine (hD9.ch0 hc10).push (m := v8.heap.size) (t := ⟨x9, ag, rs, ws⟩) (by omega) hls (fun u hu k hk => (hlD u hu k hk).2) (hN9.chg (show Chg Nil w9 w10 from hc10) fun _ h => h.elim) hb10 (by omega) (by omega) fun l' w11 hD11 hc11 hf11 => ?_
    have gl : ∀ k, blkOf l = some k → w6.heap.size ≤ k := hD8.gs
    have ninl : ∀ k, k < w6.heap.size → ¬ inL [blkOf l] k := fun k hk hin => by have := gl k (show some k = blkOf l from hin).symm; omega
    have z11 := hc11.size
    refine stB (o := 0) (hb1A.ch hc11 (ninl _ (by omega))) (by simp) fun w12 hc12 hb12 hz12 => ?_
    rw [wrap_i64 (by omega)]
    have ng : ∀ k, some k = some k1 → k < w6.heap.size := fun k h => by cases h; omega
    refine hnext _ _ ⟨i + 1, ts ++ [⟨x9, ag, rs, ws⟩], l', a9, by simp, hlt, by simp [hts], ((h9.ch0 hc10).chO hc11 (fun k hk => by have := gl k hk; omega)).chO2 hc12 (by omega) ?_, ?_, by omega, hb12, ((hb39.ch0 hc10).ch hc11 (ninl _ (by omega))).ch hc12 (nin1' (by omega)), ((hb59.ch0 hc10).ch hc11 (ninl _ (by omega))).ch hc12 (nin1' (by omega)), ((hb69.ch0 hc10).ch hc11 (ninl _ (by omega))).ch hc12 (nin1' (by omega)), hD11.chg (show Chg (inL [some k1]) w11 w12 from hc12) ng, by rw [heq, hm2]; simp⟩ (by simp; omega)
    · exact fun hk => by have := hs4 k1 hk; omega
    · exact ((hcw9.tr hc10).trO hc11 (fun k hk => by have := gl k hk; have := hcw6.size; omega)).trN hc12 (by omega)
  · have hie : i = N := by omega
    subst hie
    rw [Nat.sub_self] at heq
    have heq : rTxs bs i [] a7 = (ts.map (·.x), a, 0) := heq
    rw [heq] at hK
    dsimp only at hK
    rw [if_neg (by simp)] at hK
    refine ldP_b (o := 0) hb68 rfl ?_
    refine rleft_ok h8.rr fun w9 hd9 => ?_
    have hc9 : Ch [] w8 w9 := hd9.chg Nil
    have hle := h8.rr.le
    replace h8 := h8.ch0 hc9
    replace hb18 := hb18.ch0 hc9
    replace hb38 := hb38.ch0 hc9
    replace hb58 := hb58.ch0 hc9
    replace hb68 := hb68.ch0 hc9
    replace hD8 := hD8.ch0 hc9
    replace hcw8 := hcw8.tr hc9
    refine iteB_dec (fun hh => ?_) (fun hh => ?_)
    · rw [if_pos (by omega)] at hK
      refine ldP_b (o := 0) hb68 rfl (rat_ok h8.rr ?_)
      exact pan _ _ _ w9 (fun w'' hc'' => hK _ [] w'' (DO.nil _ _) rfl hc'') hcw8 hb18 hb38 hb58
    · rw [if_neg (by omega)] at hK
      have zz := hcw6.size
      refine ldS_b (o := 0) (s := l) hb18 rfl ?_
      refine stB (o := 0) hb18 (by simp) fun w10 hc10 hb10 _ => ?_
      refine stB (o := 0) (hb38.ch hc10 (nin1' (by omega))) (by simp) fun w11 hc11 hb11 _ => ?_
      refine stB (o := 0) ((hb58.ch hc10 (nin1' (by omega))).ch hc11 (nin1' (by omega))) (by simp) fun w12 hc12 hb12 _ => ?_
      refine dfN ?_
      have g1 := (hb10.ch hc11 (nin1' (by omega))).ch hc12 (nin1' (by omega))
      have g3 := hb11.ch hc12 (nin1' (by omega))
      refine ldS_b (o := 0) (s := l) g1 rfl (ldI_b (o := 0) g3 rfl (ldI_b (o := 0) hb12 rfl ?_))
      have nk : ∀ {j q : Nat}, q < w6.heap.size → inL [some q] j → j < w6.heap.size := fun hq h => by
        have h : some _ = some _ := h
        cases h; exact hq
      refine hK l ts w12 ?_ rfl (((hcw8.trN hc10 (by omega)).trN hc11 (by omega)).trN hc12 (by omega))
      have hD12 := ((hD8.chg hc10 fun k hk => nk (by omega) hk).chg hc11 fun k hk => nk (by omega) hk).chg hc12 fun k hk => nk (by omega) hk
      exact ⟨hD12.own, fun t ht => (hD12.row t ht).le zz, fun k hk => by have := hD12.gs k hk; omega, hD12.ds, hD12.dt⟩
end Go.Proofs.YtlnhecbgjjglfaaDoor
