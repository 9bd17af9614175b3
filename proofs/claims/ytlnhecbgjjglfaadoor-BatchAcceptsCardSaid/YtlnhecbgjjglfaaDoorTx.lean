/- Tx: transactions in memory; a batch that is lent. -/
import Derived.Test.YtlnhecbgjjglfaaDoorPr
import Derived.Test.YtlnhecbgjjglfaaDoorFr2
import Derived.Test.YtlnhecbgjjglfaaDoorRowI
set_option linter.unusedVariables false
set_option linter.unusedSimpArgs false
namespace Go.Pl
open Go Go.Sh Go.RowKit
structure Txm where
  proc : Int
  args : List Int
  reads : List (Int × Int)
  writes : List (Int × Int)
/-- A list that is lent: memory of its own, with three marks behind its end. -/
def LR (P : Nat → Prop) (w : World) (t : TypeId) (sz : Nat) (mk : List Value) (n : Nat) (s : Slc) (vs : List Value) : Prop :=
  (s = ⟨none, 0, 0⟩ ∧ n = 0 ∧ vs = []) ∨ ∃ (k : Nat) (cur : Array Value), P k ∧ s = ⟨some ⟨k, 0, none⟩, n, n + 3⟩ ∧ Blk w k cur t ∧ cur.size = (n + 3) * sz ∧ (∀ (j : Nat) (v : Value), vs[j]? = some v → cur[j]? = some v) ∧ ∀ i, i < 3 → ∀ (j : Nat) (v : Value), mk[j]? = some v → cur[(n + i) * sz + j]? = some v
theorem LR.chg {P : Nat → Prop} {S : Nat → Prop} {w w' : World} {t : TypeId} {sz : Nat} {mk : List Value} {n : Nat} {s : Slc} {vs : List Value} (h : LR P w t sz mk n s vs) (hc : Chg S w w') (hn : ∀ k, P k → ¬ S k) : LR P w' t sz mk n s vs := by
  rcases h with h | ⟨k, cur, h1, h2, h3, h4⟩
  · exact .inl h
  · exact .inr ⟨k, cur, h1, h2, h3.chg hc (hn k h1), h4⟩
theorem LR.ch0 {P : Nat → Prop} {w w' : World} {t : TypeId} {sz : Nat} {mk : List Value} {n : Nat} {s : Slc} {vs : List Value} (h : LR P w t sz mk n s vs) (hc : Ch [] w w') : LR P w' t sz mk n s vs := h.chg (show Chg Nil w w' from hc) fun _ _ h => h
theorem LR.mono {P Q : Nat → Prop} {w : World} {t : TypeId} {sz : Nat} {mk : List Value} {n : Nat} {s : Slc} {vs : List Value} (h : LR P w t sz mk n s vs) (hpq : ∀ k, k < w.heap.size → P k → Q k) : LR Q w t sz mk n s vs := by
  rcases h with h | ⟨k, cur, h1, h2, h3, h4⟩
  · exact .inl h
  · exact .inr ⟨k, cur, hpq k h3.lt h1, h2, h3, h4⟩
theorem slP_front' {ad : Addr} {l c n sz : Nat} {hi : Int} {K : Option Addr → Nat → Nat → Prop} (hh : hi = (n : Int)) (hn : n ≤ c) (hK : K (some ad) n c) : slP (some ad) l c none (some hi) sz K := by
  subst hh
  unfold slP
  simp only [Option.getD_none, Option.getD_some, Int.toNat_zero, Nat.zero_mul, Nat.sub_zero]
  refine ⟨by omega, by omega, by omega, ?_⟩
  have e : (if c = 0 then some ad else (some ad).map (·.add 0)) = some ad := by
    split <;> rfl
  rw [e, Int.toNat_natCast]
  exact hK
def mk1 : List Value := [.int .i64 (-31)]
def mk2 : List Value := [.int .i64 (-31), .int .i64 0]
theorem LR.rd {P : Nat → Prop} {w : World} {t : TypeId} {mk : List Value} {xs : List Int} {s : Slc} (h : LR P w t 1 mk xs.length s (Is .i64 xs)) : Rd w s (Is .i64 xs) := by
  rcases h with ⟨rfl, h1, h2⟩ | ⟨k, cur, h1, rfl, h3, h4, h5, _⟩
  · rw [h2]; exact Rd.nil _ _
  · refine ⟨by simp, by simp, fun i hi => ⟨_, rfl, ?_⟩⟩
    rw [add_mk, Nat.zero_add, h3.cell, List.getElem?_eq_getElem hi]
    exact h5 i _ (List.getElem?_eq_getElem hi)
theorem LR.rdC {P : Nat → Prop} {w : World} {t : TypeId} {mk : List Value} {xs : List (Int × Int)} {s : Slc} (h : LR P w t 2 mk xs.length s (flat xs)) : RdC w s xs := by
  rcases h with ⟨rfl, h1, h2⟩ | ⟨k, cur, h1, rfl, h3, h4, h5, _⟩
  · have : xs = [] := List.eq_nil_of_length_eq_zero h1
    subst this
    exact RdC.nil rfl
  · exact h3.rdC h5 (by omega)
/-- A transaction at an address. -/
structure TxAt (w : World) (ad : Addr) (x : Txm) (ag rs ws : Slc) : Prop where
  c0 : w.cell? ad = some (.int .i64 x.proc)
  c1 : w.cell? (ad.add 1) = some (.slice ag.a ag.l ag.c)
  c2 : w.cell? (ad.add 2) = some (.slice rs.a rs.l rs.c)
  c3 : w.cell? (ad.add 3) = some (.slice ws.a ws.l ws.c)
  fa : Rd w ag (Is .i64 x.args)
  fr : RdC w rs x.reads
  fw : RdC w ws x.writes
  na : ag.a = none → ag.l = 0 ∧ ag.c = 0
  nr : rs.a = none → rs.l = 0 ∧ rs.c = 0
  nw : ws.a = none → ws.l = 0 ∧ ws.c = 0
theorem TxAt.ch0 {w w' : World} {ad : Addr} {x : Txm} {ag rs ws : Slc} (h : TxAt w ad x ag rs ws) (hc : Ch [] w w') : TxAt w' ad x ag rs ws := by
  have k : ∀ {a : Addr} {v : Value}, w.cell? a = some v → w'.cell? a = some v := fun hv => cell_chg (show Chg Nil w w' from hc) hv fun h => h
  exact ⟨k h.c0, k h.c1, k h.c2, k h.c3, h.fa.ch0 hc, h.fr.ch0 hc, h.fw.ch0 hc, h.na, h.nr, h.nw⟩
/-- A batch. -/
structure RdB (w : World) (s : Slc) (xs : List Txm) : Prop where
  len : s.l = xs.length
  cap : s.l ≤ s.c
  at_ : ∀ i x, xs[i]? = some x → ∃ ad ag rs ws, s.a = some ad ∧ TxAt w (ad.add (i * 4)) x ag rs ws
theorem RdB.ch0 {w w' : World} {s : Slc} {xs : List Txm} (h : RdB w s xs) (hc : Ch [] w w') : RdB w' s xs := ⟨h.len, h.cap, fun i x hx => by
  obtain ⟨ad, ag, rs, ws, h1, h2⟩ := h.at_ i x hx
  exact ⟨ad, ag, rs, ws, h1, h2.ch0 hc⟩⟩
theorem RdB.at' {w : World} {s : Slc} {xs : List Txm} (h : RdB w s xs) {i : Nat} (hi : i < xs.length) : ∃ ad ag rs ws, TxAt w ad xs[i] ag rs ws ∧ ∀ (i' : Int) (K : Addr → Prop), i' = (i : Int) → K ad → idxP s.a s.l i' 4 K := by
  obtain ⟨ad, ag, rs, ws, h1, h2⟩ := h.at_ i xs[i] (by simp)
  refine ⟨_, ag, rs, ws, h2, fun i' K hi' hK => ?_⟩
  subst hi'
  exact ⟨by omega, by rw [h.len]; omega, ad, h1, by rw [Int.toNat_natCast]; exact hK⟩
/-- A transaction is read. -/
theorem ldTx {w : World} {ad : Addr} {x : Txm} {ag rs ws : Slc} {K : Int → Slc → Slc → Slc → Prop} (h : TxAt w ad x ag rs ws) (hK : K x.proc ag rs ws) :
    ldI .i64 ad w fun n1 => ldS (ad.add 1) w fun s2 => ldS (ad.add 2) w fun s3 => ldS (ad.add 3) w fun s4 => K n1 s2 s3 s4 :=
  ldI_of h.c0 (ldS_of h.c1 (ldS_of h.c2 (ldS_of h.c3 hK)))
/-- A block of four cells is written. -/
theorem newTx {w : World} {t : TypeId} {x0 x1 x2 x3 v0 v1 v2 v3 : Value} {K : Addr → World → Prop}
    (h : ∀ k w', Ch [] w w' → Blk w' k #[v0, v1, v2, v3] t → w.heap.size ≤ k → w'.heap.size = w.heap.size + 1 → K ⟨k, 0, none⟩ w') :
    newP #[x0, x1, x2, x3] t w fun ad w1 => stP ad v0 w1 fun w2 => stP (ad.add 1) v1 w2 fun w3 => stP (ad.add 2) v2 w3 fun w4 => stP (ad.add 3) v3 w4 fun w5 => K ad w5 := by
  refine newB fun k w1 hc1 hb1 hk hs1 => ?_
  refine stB (o := 0) hb1 (by simp) fun w2 hc2 hb2 hs2 => ?_
  refine stB hb2 (by simp) fun w3 hc3 hb3 hs3 => ?_
  refine stB hb3 (by simp) fun w4 hc4 hb4 hs4 => ?_
  refine stB hb4 (by simp) fun w5 hc5 hb5 hs5 => ?_
  refine h k w5 ?_ ?_ (by omega) (by omega)
  · exact (((hc1.trN hc2 (by omega)).trN hc3 (by omega)).trN hc4 (by omega)).trN hc5 (by omega)
  · exact hb5
/-- Four cells of a block are written. -/
theorem st4 {w : World} {b o : Nat} {cur : Array Value} {t : TypeId} {v0 v1 v2 v3 : Value} {K : World → Prop} (hb : Blk w b cur t) (ho : o + 4 ≤ cur.size)
    (h : ∀ w' cur', Ch [some b] w w' → Blk w' b cur' t → cur'.size = cur.size → (∀ j, (j < o ∨ o + 4 ≤ j) → cur'[j]? = cur[j]?) → cur'[o]? = some v0 → cur'[o + 1]? = some v1 → cur'[o + 2]? = some v2 → cur'[o + 3]? = some v3 → w'.heap.size = w.heap.size → K w') :
    stP ⟨b, o, none⟩ v0 w fun w1 => stP ((⟨b, o, none⟩ : Addr).add 1) v1 w1 fun w2 => stP ((⟨b, o, none⟩ : Addr).add 2) v2 w2 fun w3 => stP ((⟨b, o, none⟩ : Addr).add 3) v3 w3 K := by
  refine stO hb (by omega) fun w1 c1 b1 s1 => ?_
  rw [add_mk]
  refine stO b1 (by simp; omega) fun w2 c2 b2 s2 => ?_
  rw [add_mk]
  refine stO b2 (by simp; omega) fun w3 c3 b3 s3 => ?_
  rw [add_mk]
  refine stO b3 (by simp; omega) fun w4 c4 b4 s4 => ?_
  refine h w4 _ (((c1.tr c2).tr c3).tr c4) b4 (by simp) (fun j hj => ?_) ?_ ?_ ?_ ?_ (by omega)
  · rw [Array.getElem?_setIfInBounds_ne (by omega), Array.getElem?_setIfInBounds_ne (by omega), Array.getElem?_setIfInBounds_ne (by omega), Array.getElem?_setIfInBounds_ne (by omega)]
  · rw [Array.getElem?_setIfInBounds_ne (by omega), Array.getElem?_setIfInBounds_ne (by omega), Array.getElem?_setIfInBounds_ne (by omega), Array.getElem?_setIfInBounds_self_of_lt (by omega)]
  · rw [Array.getElem?_setIfInBounds_ne (by omega), Array.getElem?_setIfInBounds_ne (by omega), Array.getElem?_setIfInBounds_self_of_lt (by simp; omega)]
  · rw [Array.getElem?_setIfInBounds_ne (by omega), Array.getElem?_setIfInBounds_self_of_lt (by simp; omega)]
  · rw [Array.getElem?_setIfInBounds_self_of_lt (by simp; omega)]
end Go.Pl
namespace Go.Proofs.YtlnhecbgjjglfaaDoor
open Go Go.Sh Go.Pl Go.RowKit
theorem TI6 : ElT Tryd.prog 59 2 (.int .i64 0) 1 8 := ⟨by kernel_rfl, by kernel_rfl, rfl, by decide⟩
theorem TKy : ElT Tryd.prog 60 100 (.agg #[.int .i64 0, .int .i64 0]) 2 16 := ⟨by kernel_rfl, by kernel_rfl, rfl, by decide⟩
theorem TTx : ElT Tryd.prog 25 62 (.agg #[.int .i64 0, .slice none 0 0, .slice none 0 0, .slice none 0 0]) 4 80 := ⟨by kernel_rfl, by kernel_rfl, rfl, by decide⟩
end Go.Proofs.YtlnhecbgjjglfaaDoor
