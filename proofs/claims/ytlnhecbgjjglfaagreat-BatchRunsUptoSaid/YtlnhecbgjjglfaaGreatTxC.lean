/- TxC: a batch that is lent, and comes back. -/
import Derived.Test.YtlnhecbgjjglfaaGreatTxB
set_option linter.unusedVariables false
set_option linter.unusedSimpArgs false
namespace Go.Pl
open Go Go.Sh Go.RowKit
theorem LR.none0 {P : Nat → Prop} {w : World} {t : TypeId} {sz : Nat} {mk : List Value} {n : Nat} {s : Slc} {vs : List Value} (h : LR P w t sz mk n s vs) (ha : s.a = none) : s.l = 0 ∧ s.c = 0 := by
  rcases h with ⟨rfl, _⟩ | ⟨k, cur, _, rfl, _⟩
  · exact ⟨rfl, rfl⟩
  · cases ha
theorem Own.rdC' {w : World} {e : TypeId} {s : Slc} {cs : List (Int × Int)} (h : Own w e 2 s (flat cs)) : RdC w s cs := by
  have hl : s.l = cs.length := by have := h.len; rw [flat_length] at this; omega
  rcases h.2 with ⟨hs, hn⟩ | ⟨g, cap, cur, hs, hb, hg, hnc, hcm, hcs, htake⟩
  · injection hs with h1 h2 h3
    exact ⟨hl, by rw [h2, h3]; exact Nat.le_refl _, fun i x hx => by
      have : i < cs.length := (List.getElem?_eq_some_iff.1 hx).1
      omega⟩
  · have h1 : s.a = some ⟨g, 0, none⟩ := by injection hs
    have h3 : s.c = cap := by injection hs
    have key := World.ownsRow.cells h (g := g) (by rw [h1]; rfl)
    refine ⟨hl, by rw [h3]; exact hnc, fun i x hx => ?_⟩
    have := flat_at cs i x hx
    refine ⟨_, h1, key _ _ this.1, ?_⟩
    rw [Deep.add_add]; exact key _ _ this.2
end Go.Pl
namespace Go.Proofs.YtlnhecbgjjglfaaGreat
open Go Go.Sh Go.Pl Go.RowKit
/-- A transaction that is lent, in its batch's block. -/
def TxO (P : Nat → Nat → Prop) (w : World) (cur : Array Value) (i : Nat) (x : Txm) : Prop := ∃ ag rs ws : Slc, cur[i * 4]? = some (.int .i64 x.proc) ∧ cur[i * 4 + 1]? = some (.slice ag.a ag.l ag.c) ∧ cur[i * 4 + 2]? = some (.slice rs.a rs.l rs.c) ∧ cur[i * 4 + 3]? = some (.slice ws.a ws.l ws.c) ∧
  LR (P 0) w 2 1 mk1 x.args.length ag (Is .i64 x.args) ∧ LR (P 1) w 87 2 mk2 x.reads.length rs (flat x.reads) ∧ LR (P 2) w 87 2 mk2 x.writes.length ws (flat x.writes)
theorem TxO.chg {P : Nat → Nat → Prop} {S : Nat → Prop} {w w' : World} {cur : Array Value} {i : Nat} {x : Txm} (h : TxO P w cur i x) (hc : Chg S w w') (hn : ∀ c k, c < 3 → k < w.heap.size → P c k → ¬ S k) : TxO P w' cur i x := by
  obtain ⟨ag, rs, ws, h0, h1, h2, h3, h4, h5, h6⟩ := h
  have m : ∀ {c : Nat} {t : TypeId} {sz : Nat} {mk : List Value} {n : Nat} {s : Slc} {vs : List Value}, c < 3 → LR (P c) w t sz mk n s vs → LR (P c) w' t sz mk n s vs := fun hc3 h => by
    rcases h with h | ⟨k, cur, g1, g2, g3, g4⟩
    · exact .inl h
    · exact .inr ⟨k, cur, g1, g2, g3.chg hc (hn _ k hc3 g3.lt g1), g4⟩
  exact ⟨ag, rs, ws, h0, h1, h2, h3, m (by omega) h4, m (by omega) h5, m (by omega) h6⟩
theorem TxO.ch0 {P : Nat → Nat → Prop} {w w' : World} {cur : Array Value} {i : Nat} {x : Txm} (h : TxO P w cur i x) (hc : Ch [] w w') : TxO P w' cur i x := h.chg (show Chg Nil w w' from hc) fun _ _ _ _ _ h => h
theorem TxO.mono {P Q : Nat → Nat → Prop} {w : World} {cur : Array Value} {i : Nat} {x : Txm} (h : TxO P w cur i x) (hq : ∀ c k, c < 3 → k < w.heap.size → P c k → Q c k) : TxO Q w cur i x := by
  obtain ⟨ag, rs, ws, h0, h1, h2, h3, h4, h5, h6⟩ := h
  exact ⟨ag, rs, ws, h0, h1, h2, h3, h4.mono fun k => hq 0 k (by omega), h5.mono fun k => hq 1 k (by omega), h6.mono fun k => hq 2 k (by omega)⟩
theorem TxO.row {P : Nat → Nat → Prop} {w : World} {cur cur' : Array Value} {i : Nat} {x : Txm} (h : TxO P w cur i x) (hc : ∀ j, i * 4 ≤ j → j < i * 4 + 4 → cur'[j]? = cur[j]?) : TxO P w cur' i x := by
  obtain ⟨ag, rs, ws, h0, h1, h2, h3, h4⟩ := h
  exact ⟨ag, rs, ws, by rw [hc _ (by omega) (by omega)]; exact h0, by rw [hc _ (by omega) (by omega)]; exact h1, by rw [hc _ (by omega) (by omega)]; exact h2, by rw [hc _ (by omega) (by omega)]; exact h3, h4⟩
/-- A batch that is lent. -/
def LB (lo hi : Nat) (w : World) (s : Slc) (xs : List Txm) : Prop := (s = ⟨none, 0, 0⟩ ∧ xs = []) ∨ ∃ (k0 : Nat) (cur : Array Value) (f : Nat → Nat), (lo ≤ k0 ∧ k0 < hi) ∧ f k0 = 0 ∧ s = ⟨some ⟨k0, 0, none⟩, xs.length, xs.length + 3⟩ ∧ Blk w k0 cur 46 ∧ cur.size = (xs.length + 3) * 4 ∧ (∀ j, j < 3 → cur[(xs.length + j) * 4]? = some (.int .i64 (-31))) ∧
  ∀ (i : Nat) (x : Txm), xs[i]? = some x → TxO (fun c k => (lo ≤ k ∧ k < hi) ∧ f k = 3 * i + 1 + c) w cur i x
theorem LB.ch0 {lo hi : Nat} {w w' : World} {s : Slc} {xs : List Txm} (h : LB lo hi w s xs) (hc : Ch [] w w') : LB lo hi w' s xs := by
  rcases h with h | ⟨k0, cur, f, h1, h2, h3, h4, h5, h6, h7⟩
  · exact .inl h
  · exact .inr ⟨k0, cur, f, h1, h2, h3, h4.ch0 hc, h5, h6, fun i x hx => (h7 i x hx).ch0 hc⟩
theorem LB.rdB {lo hi : Nat} {w : World} {s : Slc} {xs : List Txm} (h : LB lo hi w s xs) : RdB w s xs := by
  rcases h with ⟨rfl, rfl⟩ | ⟨k0, cur, f, h1, h2, rfl, h4, h5, h6, h7⟩
  · exact ⟨rfl, Nat.le_refl _, fun i x hx => by simp at hx⟩
  · refine ⟨rfl, by simp, fun i x hx => ?_⟩
    obtain ⟨ag, rs, ws, g0, g1, g2, g3, g4, g5, g6⟩ := h7 i x hx
    have cell : ∀ {j : Nat} {v : Value}, cur[i * 4 + j]? = some v → w.cell? (((⟨k0, 0, none⟩ : Addr).add (i * 4)).add j) = some v := fun hv => by
      rw [Deep.add_add, add_mk, Nat.zero_add, h4.cell]; exact hv
    refine ⟨_, ag, rs, ws, rfl, ⟨?_, cell g1, cell g2, cell g3, g4.rd, g5.rdC, g6.rdC, g4.none0, g5.none0, g6.none0⟩⟩
    rw [add_mk, Nat.zero_add, h4.cell]; exact g0
def Few (xs : List Txm) : Prop := xs.length ≤ 1000000 ∧ ∀ x ∈ xs, x.args.length ≤ 1000000 ∧ x.reads.length ≤ 1000000 ∧ x.writes.length ≤ 1000000
set_option maxHeartbeats 2000000 in
theorem lent_ok {b : Slc} {xs : List Txm} {w : World} {K : Slc → World → Prop} (hb : RdB w b xs) (hn : b.a = none → b.l = 0) (few : Few xs)
    (hK : ∀ s w', LB w.heap.size w'.heap.size w' s xs → (s.a = none → b.a = none) → Ch [] w w' → K s w') : c_preludelaw06_lent b w K := by
  refine sim_preludelaw06_lent ?_
  unfold sh_preludelaw06_lent
  have lb := hb.len
  obtain ⟨few1, few2⟩ := few
  refine iteB_intro (fun h => ?_) (fun h => ?_)
  · have h0 : b.a = none := by simpa using h
    have h1 := hn h0
    have : xs = [] := List.eq_nil_of_length_eq_zero (by omega)
    subst this
    exact hK _ w (.inl ⟨rfl, rfl⟩) (fun _ => h0) (Ch.refl _ _)
  rw [wrap_i64 (by omega), show ((b.l : Int) + 3) = ((xs.length + 3 : Nat) : Int) by omega]
  refine mkP_intro TTx (by omega) (by omega) fun w1 (hc1 : Ch [] w w1) hb1 hs1 => ?_
  generalize hcur : madeCells (Value.agg #[.int .i64 0, .slice none 0 0, .slice none 0 0, .slice none 0 0]).cells ((xs.length + 3) * 4) = cur at hb1
  have hsz : cur.size = (xs.length + 3) * 4 := by rw [← hcur]; simp [madeCells]
  clear hcur
  generalize hk0 : w.heap.size = k0 at *
  refine loopP_inv (fun st w3 => ∃ (i : Nat) (cur : Array Value), st.1 = (i : Int) ∧ i ≤ xs.length + 3 ∧ Blk w3 k0 cur 46 ∧ cur.size = (xs.length + 3) * 4 ∧ (∀ i', i' < i → cur[i' * 4]? = some (.int .i64 (-31))) ∧ Ch [] w w3) (fun st _ => xs.length + 3 - st.1.toNat)
    ⟨0, cur, rfl, by omega, hb1, hsz, fun i' h => by omega, hc1⟩ ?_
  clear hb1 hsz hc1 hs1
  rintro ⟨i0, u⟩ w3 next ⟨i, cur, rfl, hi, hb3, hsz, hmk, hc3⟩ hnext
  dsimp only
  refine iteB_dec (fun h => ?_) (fun h => ?_)
  · refine idxP_intro (by omega) (by omega) rfl ?_
    rw [Int.toNat_natCast, add_mk, Nat.zero_add]
    refine st4 hb3 (by omega) fun w4 cur' hc4 hb4 hs4 ho e0 e1 e2 e3 hz => ?_
    rw [wrap_i64 (by omega)]
    refine hnext _ _ ⟨i + 1, cur', by simp, by omega, hb4, by omega, fun i' hi' => ?_, hc3.trN hc4 (by omega)⟩ (by simp; omega)
    rcases Nat.lt_or_ge i' i with h1 | h1
    · rw [ho _ (by omega)]; exact hmk i' h1
    · have : i' = i := by omega
      subst this
      exact e0
  have hmk3 : ∀ j, j < 3 → cur[(xs.length + j) * 4]? = some (.int .i64 (-31)) := fun j hj => hmk _ (by omega)
  clear hnext hmk h
  refine loopP_inv (fun st w4 => ∃ (i : Nat) (cur : Array Value) (f : Nat → Nat), st.1 = (i : Int) ∧ i ≤ xs.length ∧ Blk w4 k0 cur 46 ∧ cur.size = (xs.length + 3) * 4 ∧ (∀ j, j < 3 → cur[(xs.length + j) * 4]? = some (.int .i64 (-31))) ∧ f k0 = 0 ∧
      (∀ (j : Nat) (x : Txm), j < i → xs[j]? = some x → TxO (fun c k => k0 ≤ k ∧ f k = 3 * j + 1 + c) w4 cur j x) ∧ Ch [] w w4) (fun st _ => xs.length - st.1.toNat)
    ⟨0, cur, fun _ => 0, rfl, Nat.zero_le _, hb3, hsz, hmk3, rfl, fun j x h => by omega, hc3⟩ ?_
  clear hb3 hsz hmk3 hc3 hi
  rintro ⟨i0, u⟩ w4 next ⟨i, cur, f, rfl, hi, hb4, hsz, hmk, hf0, htx, hc4⟩ hnext
  dsimp only
  refine iteB_dec (fun h => ?_) (fun h => ?_)
  · have hlt : i < xs.length := by omega
    have hx : xs[i]? = some xs[i] := by simp
    obtain ⟨f1, f2, f3⟩ := few2 xs[i] (List.getElem_mem hlt)
    have hcd := hc4.tr (Ch.drew w4)
    obtain ⟨ad, ag, rs, ws, hA, ia⟩ := (hb.ch0 hcd).at' hlt
    refine ia _ _ rfl (ldI_of hA.c0 (ia _ _ rfl (ldS_of (s := ag) hA.c1 (ia _ _ rfl (ldS_of (s := rs) hA.c2 (ia _ _ rfl (ldS_of (s := ws) hA.c3 ?_)))))))
    have z4 := (Ch.drew w4).size
    have y4 : w4.drew.heap.size = w4.heap.size := rfl
    have b4 := hb4.below
    refine ints_ok hA.fa (fun h => (hA.na h).1) f1 fun s5 w5 hl5 hc5 => ?_
    replace hA := hA.ch0 hc5
    have z5 := hc5.size
    replace hl5 := hl5.mono (Q := fun k => w4.heap.size ≤ k ∧ k < w5.heap.size) fun k h1 h2 => ⟨h2, h1⟩
    refine ⟨hA.c3, hA.c2, hA.c0, ?_⟩
    refine keyList_ok hA.fr (fun h => (hA.nr h).1) f2 fun s6 w6 hl6 hc6 => ?_
    replace hA := hA.ch0 hc6
    have z6 := hc6.size
    replace hl5 := hl5.ch0 hc6
    replace hl6 := hl6.mono (Q := fun k => w5.heap.size ≤ k ∧ k < w6.heap.size) fun k h1 h2 => ⟨h2, h1⟩
    refine ⟨hA.c3, hA.c0, ?_⟩
    refine keyList_ok hA.fw (fun h => (hA.nw h).1) f3 fun s7 w7 hl7 hc7 => ?_
    replace hA := hA.ch0 hc7
    have z7 := hc7.size
    replace hl5 := hl5.ch0 hc7
    replace hl6 := hl6.ch0 hc7
    replace hl7 := hl7.mono (Q := fun k => w6.heap.size ≤ k ∧ k < w7.heap.size) fun k h1 h2 => ⟨h2, h1⟩
    refine ⟨hA.c0, ?_⟩
    refine idxP_intro (by omega) (by omega) rfl ?_
    rw [Int.toNat_natCast, add_mk, Nat.zero_add]
    have hc47 : Ch [] w4 w7 := (((Ch.drew w4).tr hc5).tr hc6).tr hc7
    refine st4 (hb4.ch0 hc47) (by omega) fun w8 cur' hc8 hb8 hs8 ho e0 e1 e2 e3 hz => ?_
    rw [wrap_i64 (by omega)]
    have nk : ∀ k, k0 < k → ¬ inL [some k0] k := fun k hk => nin1' (by omega)
    have over : ∀ {P : Nat → Prop} {t : TypeId} {sz : Nat} {mk : List Value} {n : Nat} {s : Slc} {vs : List Value}, LR P w7 t sz mk n s vs → (∀ k, P k → k0 < k) → LR P w8 t sz mk n s vs := fun h hp => h.chg hc8 fun k hk => nk k (hp k hk)
    refine hnext _ _ ⟨i + 1, cur', fun k => if k < w4.heap.size then f k else if k < w5.heap.size then 3 * i + 1 else if k < w6.heap.size then 3 * i + 2 else 3 * i + 3, by simp, hlt, hb8, by omega, fun j hj => ?_, ?_, fun j x hj hxj => ?_, ?_⟩ (by simp; omega)
    · rw [ho _ (by omega)]; exact hmk j hj
    · show (if k0 < w4.heap.size then _ else _) = _
      rw [if_pos b4]; exact hf0
    · rcases Nat.lt_or_ge j i with h1 | h1
      · have h2 := (htx j x h1 hxj).mono (Q := fun c k => (k0 ≤ k ∧ f k = 3 * j + 1 + c) ∧ k < w4.heap.size) fun c k _ hk hp => ⟨hp, hk⟩
        have h3 := (h2.ch0 hc47).row (cur' := cur') fun q hq1 hq2 => ho q (by omega)
        refine (h3.chg hc8 fun c k hc hk hp => nin1' fun he => ?_).mono fun c k hc hk hp => ⟨hp.1.1, ?_⟩
        · subst he
          have := hp.1.2
          omega
        · show (if k < w4.heap.size then _ else _) = _
          rw [if_pos hp.2]; exact hp.1.2
      · have : j = i := by omega
        subst this
        rw [hx] at hxj
        cases hxj
        refine ⟨s5, s6, s7, e0, e1, e2, e3, (over hl5 fun k hk => by omega).mono fun k hk hp => ⟨by omega, ?_⟩, (over hl6 fun k hk => by omega).mono fun k hk hp => ⟨by omega, ?_⟩, (over hl7 fun k hk => by omega).mono fun k hk hp => ⟨by omega, ?_⟩⟩
        · show (if k < w4.heap.size then _ else _) = _
          rw [if_neg (by omega), if_pos hp.2]
        · show (if k < w4.heap.size then _ else _) = _
          rw [if_neg (by omega), if_neg (by omega), if_pos hp.2]
        · show (if k < w4.heap.size then _ else _) = _
          rw [if_neg (by omega), if_neg (by omega), if_neg (by omega)]
    · exact (hc4.tr hc47).trN hc8 (by omega)
  have hie : i = xs.length := by omega
  subst hie
  refine slP_front' (n := xs.length) (by omega) (by omega) ?_
  refine hK _ w4 (.inr ⟨k0, cur, f, ⟨Nat.le_refl _, hb4.below⟩, hf0, rfl, hb4, hsz, hmk, fun i x hx => ?_⟩) (fun h => by cases h) hc4
  refine (htx i x (List.getElem?_eq_some_iff.1 hx).1 hx).mono fun c k hc hk hp => ⟨⟨hp.1, hk⟩, hp.2⟩
end Go.Proofs.YtlnhecbgjjglfaaGreat
