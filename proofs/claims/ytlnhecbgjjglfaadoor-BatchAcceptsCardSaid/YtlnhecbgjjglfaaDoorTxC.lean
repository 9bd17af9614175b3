/- TxC: a batch that is lent, and comes back. -/
import Derived.Test.YtlnhecbgjjglfaaDoorTxB
set_option linter.unusedVariables false
set_option linter.unusedSimpArgs false
namespace Go.Pl
open Go Go.Sh Go.RowKit
theorem LR.none0 {P : Nat → Prop} {w : World} {t : TypeId} {sz : Nat} {mk : List Value} {n : Nat} {s : Slc} {vs : List Value} (h : LR P w t sz mk n s vs) (ha : s.a = none) : s.l = 0 ∧ s.c = 0 := by
  rcases h with ⟨rfl, _⟩ | ⟨k, cur, _, rfl, _⟩
  · exact ⟨rfl, rfl⟩
  · cases ha
theorem Own.rdC' {w : World} {e : TypeId} {s : Slc} {cs : List (Int × Int)} (h : Own w e 2 s (flat cs)) : RdC w s cs := by
  have hl : s.l = cs.length := by have := h.len; rw [flat_length] at this; omega
  rcases h.2 with ⟨hs, hn⟩ | ⟨g, cap, cur, hs, hb, hg, hnc, hcm, hcs, htake⟩
  · injection hs with h1 h2 h3
    exact ⟨hl, by rw [h2, h3]; exact Nat.le_refl _, fun i x hx => by
      have : i < cs.length := (List.getElem?_eq_some_iff.1 hx).1
      omega⟩
  · have h1 : s.a = some ⟨g, 0, none⟩ := by injection hs
    have h3 : s.c = cap := by injection hs
    have key := World.ownsRow.cells h (g := g) (by rw [h1]; rfl)
    refine ⟨hl, by rw [h3]; exact hnc, fun i x hx => ?_⟩
    have := flat_at cs i x hx
    refine ⟨_, h1, key _ _ this.1, ?_⟩
    rw [Deep.add_add]; exact key _ _ this.2
end Go.Pl
namespace Go.Proofs.YtlnhecbgjjglfaaDoor
open Go Go.Sh Go.Pl Go.RowKit
/-- A transaction that is lent, in its batch's block. -/
def TxO (P : Nat → Nat → Prop) (w : World) (cur : Array Value) (i : Nat) (x : Txm) : Prop := ∃ ag rs ws : Slc, cur[i * 4]? = some (.int .i64 x.proc) ∧ cur[i * 4 + 1]? = some (.slice ag.a ag.l ag.c) ∧ cur[i * 4 + 2]? = some (.slice rs.a rs.l rs.c) ∧ cur[i * 4 + 3]? = some (.slice ws.a ws.l ws.c) ∧
  LR (P 0) w 2 1 mk1 x.args.length ag (Is .i64 x.args) ∧ LR (P 1) w 100 2 mk2 x.reads.length rs (flat x.reads) ∧ LR (P 2) w 100 2 mk2 x.writes.length ws (flat x.writes)
theorem TxO.chg {P : Nat → Nat → Prop} {S : Nat → Prop} {w w' : World} {cur : Array Value} {i : Nat} {x : Txm} (h : TxO P w cur i x) (hc : Chg S w w') (hn : ∀ c k, c < 3 → k < w.heap.size → P c k → ¬ S k) : TxO P w' cur i x := by
  obtain ⟨ag, rs, ws, h0, h1, h2, h3, h4, h5, h6⟩ := h
  have m : ∀ {c : Nat} {t : TypeId} {sz : Nat} {mk : List Value} {n : Nat} {s : Slc} {vs : List Value}, c < 3 → LR (P c) w t sz mk n s vs → LR (P c) w' t sz mk n s vs := fun hc3 h => by
    rcases h with h | ⟨k, cur, g1, g2, g3, g4⟩
    · exact .inl h
    · exact .inr ⟨k, cur, g1, g2, g3.chg hc (hn _ k hc3 g3.lt g1), g4⟩
  exact ⟨ag, rs, ws, h0, h1, h2, h3, m (by omega) h4, m (by omega) h5, m (by omega) h6⟩
theorem TxO.ch0 {P : Nat → Nat → Prop} {w w' : World} {cur : Array Value} {i : Nat} {x : Txm} (h : TxO P w cur i x) (hc : Ch [] w w') : TxO P w' cur i x := h.chg (show Chg Nil w w' from hc) fun _ _ _ _ _ h => h
theorem TxO.mono {P Q : Nat → Nat → Prop} {w : World} {cur : Array Value} {i : Nat} {x : Txm} (h : TxO P w cur i x) (hq : ∀ c k, c < 3 → k < w.heap.size → P c k → Q c k) : TxO Q w cur i x := by
  obtain ⟨ag, rs, ws, h0, h1, h2, h3, h4, h5, h6⟩ := h
  exact ⟨ag, rs, ws, h0, h1, h2, h3, h4.mono fun k => hq 0 k (by omega), h5.mono fun k => hq 1 k (by omega), h6.mono fun k => hq 2 k (by omega)⟩
theorem TxO.row {P : Nat → Nat → Prop} {w : World} {cur cur' : Array Value} {i : Nat} {x : Txm} (h : TxO P w cur i x) (hc : ∀ j, i * 4 ≤ j → j < i * 4 + 4 → cur'[j]? = cur[j]?) : TxO P w cur' i x := by
  obtain ⟨ag, rs, ws, h0, h1, h2, h3, h4⟩ := h
  exact ⟨ag, rs, ws, by rw [hc _ (by omega) (by omega)]; exact h0, by rw [hc _ (by omega) (by omega)]; exact h1, by rw [hc _ (by omega) (by omega)]; exact h2, by rw [hc _ (by omega) (by omega)]; exact h3, h4⟩
/-- A batch that is lent. -/
def LB (lo hi : Nat) (w : World) (s : Slc) (xs : List Txm) : Prop := (s = ⟨none, 0, 0⟩ ∧ xs = []) ∨ ∃ (k0 : Nat) (cur : Array Value) (f : Nat → Nat), (lo ≤ k0 ∧ k0 < hi) ∧ f k0 = 0 ∧ s = ⟨some ⟨k0, 0, none⟩, xs.length, xs.length + 3⟩ ∧ Blk w k0 cur 62 ∧ cur.size = (xs.length + 3) * 4 ∧ (∀ j, j < 3 → cur[(xs.length + j) * 4]? = some (.int .i64 (-31))) ∧
  ∀ (i : Nat) (x : Txm), xs[i]? = some x → TxO (fun c k => (lo ≤ k ∧ k < hi) ∧ f k = 3 * i + 1 + c) w cur i x
theorem LB.ch0 {lo hi : Nat} {w w' : World} {s : Slc} {xs : List Txm} (h : LB lo hi w s xs) (hc : Ch [] w w') : LB lo hi w' s xs := by
  rcases h with h | ⟨k0, cur, f, h1, h2, h3, h4, h5, h6, h7⟩
  · exact .inl h
  · exact .inr ⟨k0, cur, f, h1, h2, h3, h4.ch0 hc, h5, h6, fun i x hx => (h7 i x hx).ch0 hc⟩
theorem LB.rdB {lo hi : Nat} {w : World} {s : Slc} {xs : List Txm} (h : LB lo hi w s xs) : RdB w s xs := by
  rcases h with ⟨rfl, rfl⟩ | ⟨k0, cur, f, h1, h2, rfl, h4, h5, h6, h7⟩
  · exact ⟨rfl, Nat.le_refl _, fun i x hx => by simp at hx⟩
  · refine ⟨rfl, by simp, fun i x hx => ?_⟩
    obtain ⟨ag, rs, ws, g0, g1, g2, g3, g4, g5, g6⟩ := h7 i x hx
    have cell : ∀ {j : Nat} {v : Value}, cur[i * 4 + j]? = some v → w.cell? (((⟨k0, 0, none⟩ : Addr).add (i * 4)).add j) = some v := fun hv => by
      rw [Deep.add_add, add_mk, Nat.zero_add, h4.cell]; exact hv
    refine ⟨_, ag, rs, ws, rfl, ⟨?_, cell g1, cell g2, cell g3, g4.rd, g5.rdC, g6.rdC, g4.none0, g5.none0, g6.none0⟩⟩
    rw [add_mk, Nat.zero_add, h4.cell]; exact g0
def Few (xs : List Txm) : Prop := xs.length ≤ 1000000 ∧ ∀ x ∈ xs, x.args.length ≤ 1000000 ∧ x.reads.length ≤ 1000000 ∧ x.writes.length ≤ 1000000
end Go.Proofs.YtlnhecbgjjglfaaDoor
