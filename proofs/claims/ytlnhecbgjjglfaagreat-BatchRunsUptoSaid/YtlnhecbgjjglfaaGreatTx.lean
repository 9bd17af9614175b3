/- Tx: transactions in memory; a batch that is lent. -/
import Derived.Test.YtlnhecbgjjglfaaGreatPr
import Derived.Test.YtlnhecbgjjglfaaGreatFr2
import Derived.Test.YtlnhecbgjjglfaaGreatRowI
set_option linter.unusedVariables false
set_option linter.unusedSimpArgs false
namespace Go.Pl
open Go Go.Sh Go.RowKit
structure Txm where
  proc : Int
  args : List Int
  reads : List (Int × Int)
  writes : List (Int × Int)
/-- A list that is lent: memory of its own, with three marks behind its end. -/
def LR (P : Nat → Prop) (w : World) (t : TypeId) (sz : Nat) (mk : List Value) (n : Nat) (s : Slc) (vs : List Value) : Prop :=
  (s = ⟨none, 0, 0⟩ ∧ n = 0 ∧ vs = []) ∨ ∃ (k : Nat) (cur : Array Value), P k ∧ s = ⟨some ⟨k, 0, none⟩, n, n + 3⟩ ∧ Blk w k cur t ∧ cur.size = (n + 3) * sz ∧ (∀ (j : Nat) (v : Value), vs[j]? = some v → cur[j]? = some v) ∧ ∀ i, i < 3 → ∀ (j : Nat) (v : Value), mk[j]? = some v → cur[(n + i) * sz + j]? = some v
theorem LR.chg {P : Nat → Prop} {S : Nat → Prop} {w w' : World} {t : TypeId} {sz : Nat} {mk : List Value} {n : Nat} {s : Slc} {vs : List Value} (h : LR P w t sz mk n s vs) (hc : Chg S w w') (hn : ∀ k, P k → ¬ S k) : LR P w' t sz mk n s vs := by
  rcases h with h | ⟨k, cur, h1, h2, h3, h4⟩
  · exact .inl h
  · exact .inr ⟨k, cur, h1, h2, h3.chg hc (hn k h1), h4⟩
theorem LR.ch0 {P : Nat → Prop} {w w' : World} {t : TypeId} {sz : Nat} {mk : List Value} {n : Nat} {s : Slc} {vs : List Value} (h : LR P w t sz mk n s vs) (hc : Ch [] w w') : LR P w' t sz mk n s vs := h.chg (show Chg Nil w w' from hc) fun _ _ h => h
theorem LR.mono {P Q : Nat → Prop} {w : World} {t : TypeId} {sz : Nat} {mk : List Value} {n : Nat} {s : Slc} {vs : List Value} (h : LR P w t sz mk n s vs) (hpq : ∀ k, k < w.heap.size → P k → Q k) : LR Q w t sz mk n s vs := by
  rcases h with h | ⟨k, cur, h1, h2, h3, h4⟩
  · exact .inl h
  · exact .inr ⟨k, cur, hpq k h3.lt h1, h2, h3, h4⟩
theorem slP_front' {ad : Addr} {l c n sz : Nat} {hi : Int} {K : Option Addr → Nat → Nat → Prop} (hh : hi = (n : Int)) (hn : n ≤ c) (hK : K (some ad) n c) : slP (some ad) l c none (some hi) sz K := by
  subst hh
  unfold slP
  simp only [Option.getD_none, Option.getD_some, Int.toNat_zero, Nat.zero_mul, Nat.sub_zero]
  refine ⟨by omega, by omega, by omega, ?_⟩
  have e : (if c = 0 then some ad else (some ad).map (·.add 0)) = some ad := by
    split <;> rfl
  rw [e, Int.toNat_natCast]
  exact hK
def mk1 : List Value := [.int .i64 (-31)]
def mk2 : List Value := [.int .i64 (-31), .int .i64 0]
theorem LR.rd {P : Nat → Prop} {w : World} {t : TypeId} {mk : List Value} {xs : List Int} {s : Slc} (h : LR P w t 1 mk xs.length s (Is .i64 xs)) : Rd w s (Is .i64 xs) := by
  rcases h with ⟨rfl, h1, h2⟩ | ⟨k, cur, h1, rfl, h3, h4, h5, _⟩
  · rw [h2]; exact Rd.nil _ _
  · refine ⟨by simp, by simp, fun i hi => ⟨_, rfl, ?_⟩⟩
    rw [add_mk, Nat.zero_add, h3.cell, List.getElem?_eq_getElem hi]
    exact h5 i _ (List.getElem?_eq_getElem hi)
theorem LR.rdC {P : Nat → Prop} {w : World} {t : TypeId} {mk : List Value} {xs : List (Int × Int)} {s : Slc} (h : LR P w t 2 mk xs.length s (flat xs)) : RdC w s xs := by
  rcases h with ⟨rfl, h1, h2⟩ | ⟨k, cur, h1, rfl, h3, h4, h5, _⟩
  · have : xs = [] := List.eq_nil_of_length_eq_zero h1
    subst this
    exact RdC.nil rfl
  · exact h3.rdC h5 (by omega)
/-- A transaction at an address. -/
structure TxAt (w : World) (ad : Addr) (x : Txm) (ag rs ws : Slc) : Prop where
  c0 : w.cell? ad = some (.int .i64 x.proc)
  c1 : w.cell? (ad.add 1) = some (.slice ag.a ag.l ag.c)
  c2 : w.cell? (ad.add 2) = some (.slice rs.a rs.l rs.c)
  c3 : w.cell? (ad.add 3) = some (.slice ws.a ws.l ws.c)
  fa : Rd w ag (Is .i64 x.args)
  fr : RdC w rs x.reads
  fw : RdC w ws x.writes
  na : ag.a = none → ag.l = 0 ∧ ag.c = 0
  nr : rs.a = none → rs.l = 0 ∧ rs.c = 0
  nw : ws.a = none → ws.l = 0 ∧ ws.c = 0
theorem TxAt.ch0 {w w' : World} {ad : Addr} {x : Txm} {ag rs ws : Slc} (h : TxAt w ad x ag rs ws) (hc : Ch [] w w') : TxAt w' ad x ag rs ws := by
  have k : ∀ {a : Addr} {v : Value}, w.cell? a = some v → w'.cell? a = some v := fun hv => cell_chg (show Chg Nil w w' from hc) hv fun h => h
  exact ⟨k h.c0, k h.c1, k h.c2, k h.c3, h.fa.ch0 hc, h.fr.ch0 hc, h.fw.ch0 hc, h.na, h.nr, h.nw⟩
/-- A batch. -/
structure RdB (w : World) (s : Slc) (xs : List Txm) : Prop where
  len : s.l = xs.length
  cap : s.l ≤ s.c
  at_ : ∀ i x, xs[i]? = some x → ∃ ad ag rs ws, s.a = some ad ∧ TxAt w (ad.add (i * 4)) x ag rs ws
theorem RdB.ch0 {w w' : World} {s : Slc} {xs : List Txm} (h : RdB w s xs) (hc : Ch [] w w') : RdB w' s xs := ⟨h.len, h.cap, fun i x hx => by
  obtain ⟨ad, ag, rs, ws, h1, h2⟩ := h.at_ i x hx
  exact ⟨ad, ag, rs, ws, h1, h2.ch0 hc⟩⟩
theorem RdB.at' {w : World} {s : Slc} {xs : List Txm} (h : RdB w s xs) {i : Nat} (hi : i < xs.length) : ∃ ad ag rs ws, TxAt w ad xs[i] ag rs ws ∧ ∀ (i' : Int) (K : Addr → Prop), i' = (i : Int) → K ad → idxP s.a s.l i' 4 K := by
  obtain ⟨ad, ag, rs, ws, h1, h2⟩ := h.at_ i xs[i] (by simp)
  refine ⟨_, ag, rs, ws, h2, fun i' K hi' hK => ?_⟩
  subst hi'
  exact ⟨by omega, by rw [h.len]; omega, ad, h1, by rw [Int.toNat_natCast]; exact hK⟩
/-- A transaction is read. -/
theorem ldTx {w : World} {ad : Addr} {x : Txm} {ag rs ws : Slc} {K : Int → Slc → Slc → Slc → Prop} (h : TxAt w ad x ag rs ws) (hK : K x.proc ag rs ws) :
    ldI .i64 ad w fun n1 => ldS (ad.add 1) w fun s2 => ldS (ad.add 2) w fun s3 => ldS (ad.add 3) w fun s4 => K n1 s2 s3 s4 :=
  ldI_of h.c0 (ldS_of h.c1 (ldS_of h.c2 (ldS_of h.c3 hK)))
/-- A block of four cells is written. -/
theorem newTx {w : World} {t : TypeId} {x0 x1 x2 x3 v0 v1 v2 v3 : Value} {K : Addr → World → Prop}
    (h : ∀ k w', Ch [] w w' → Blk w' k #[v0, v1, v2, v3] t → w.heap.size ≤ k → w'.heap.size = w.heap.size + 1 → K ⟨k, 0, none⟩ w') :
    newP #[x0, x1, x2, x3] t w fun ad w1 => stP ad v0 w1 fun w2 => stP (ad.add 1) v1 w2 fun w3 => stP (ad.add 2) v2 w3 fun w4 => stP (ad.add 3) v3 w4 fun w5 => K ad w5 := by
  refine newB fun k w1 hc1 hb1 hk hs1 => ?_
  refine stB (o := 0) hb1 (by simp) fun w2 hc2 hb2 hs2 => ?_
  refine stB hb2 (by simp) fun w3 hc3 hb3 hs3 => ?_
  refine stB hb3 (by simp) fun w4 hc4 hb4 hs4 => ?_
  refine stB hb4 (by simp) fun w5 hc5 hb5 hs5 => ?_
  refine h k w5 ?_ ?_ (by omega) (by omega)
  · exact (((hc1.trN hc2 (by omega)).trN hc3 (by omega)).trN hc4 (by omega)).trN hc5 (by omega)
  · exact hb5
/-- Four cells of a block are written. -/
theorem st4 {w : World} {b o : Nat} {cur : Array Value} {t : TypeId} {v0 v1 v2 v3 : Value} {K : World → Prop} (hb : Blk w b cur t) (ho : o + 4 ≤ cur.size)
    (h : ∀ w' cur', Ch [some b] w w' → Blk w' b cur' t → cur'.size = cur.size → (∀ j, (j < o ∨ o + 4 ≤ j) → cur'[j]? = cur[j]?) → cur'[o]? = some v0 → cur'[o + 1]? = some v1 → cur'[o + 2]? = some v2 → cur'[o + 3]? = some v3 → w'.heap.size = w.heap.size → K w') :
    stP ⟨b, o, none⟩ v0 w fun w1 => stP ((⟨b, o, none⟩ : Addr).add 1) v1 w1 fun w2 => stP ((⟨b, o, none⟩ : Addr).add 2) v2 w2 fun w3 => stP ((⟨b, o, none⟩ : Addr).add 3) v3 w3 K := by
  refine stO hb (by omega) fun w1 c1 b1 s1 => ?_
  rw [add_mk]
  refine stO b1 (by simp; omega) fun w2 c2 b2 s2 => ?_
  rw [add_mk]
  refine stO b2 (by simp; omega) fun w3 c3 b3 s3 => ?_
  rw [add_mk]
  refine stO b3 (by simp; omega) fun w4 c4 b4 s4 => ?_
  refine h w4 _ (((c1.tr c2).tr c3).tr c4) b4 (by simp) (fun j hj => ?_) ?_ ?_ ?_ ?_ (by omega)
  · rw [Array.getElem?_setIfInBounds_ne (by omega), Array.getElem?_setIfInBounds_ne (by omega), Array.getElem?_setIfInBounds_ne (by omega), Array.getElem?_setIfInBounds_ne (by omega)]
  · rw [Array.getElem?_setIfInBounds_ne (by omega), Array.getElem?_setIfInBounds_ne (by omega), Array.getElem?_setIfInBounds_ne (by omega), Array.getElem?_setIfInBounds_self_of_lt (by omega)]
  · rw [Array.getElem?_setIfInBounds_ne (by omega), Array.getElem?_setIfInBounds_ne (by omega), Array.getElem?_setIfInBounds_self_of_lt (by simp; omega)]
  · rw [Array.getElem?_setIfInBounds_ne (by omega), Array.getElem?_setIfInBounds_self_of_lt (by simp; omega)]
  · rw [Array.getElem?_setIfInBounds_self_of_lt (by simp; omega)]
end Go.Pl
namespace Go.Proofs.YtlnhecbgjjglfaaGreat
open Go Go.Sh Go.Pl Go.RowKit
theorem TI6 : ElT Tryz.prog 43 2 (.int .i64 0) 1 8 := ⟨by kernel_rfl, by kernel_rfl, rfl, by decide⟩
theorem TKy : ElT Tryz.prog 44 87 (.agg #[.int .i64 0, .int .i64 0]) 2 16 := ⟨by kernel_rfl, by kernel_rfl, rfl, by decide⟩
theorem TTx : ElT Tryz.prog 31 46 (.agg #[.int .i64 0, .slice none 0 0, .slice none 0 0, .slice none 0 0]) 4 80 := ⟨by kernel_rfl, by kernel_rfl, rfl, by decide⟩
set_option maxHeartbeats 1000000 in
theorem ints_ok {l : Slc} {xs : List Int} {w : World} {K : Slc → World → Prop} (hl : Rd w l (Is .i64 xs)) (hn : l.a = none → l.l = 0) (few : xs.length ≤ 1000000)
    (hK : ∀ s w', LR (fun k => w.heap.size ≤ k) w' 2 1 mk1 xs.length s (Is .i64 xs) → Ch [] w w' → K s w') : c_preludelaw06_ints l w K := by
  refine sim_preludelaw06_ints ?_
  unfold sh_preludelaw06_ints
  have ll := hl.len
  simp only [Is_length] at ll
  refine iteB_intro (fun h => ?_) (fun h => ?_)
  · have h0 : l.a = none := by simpa using h
    have h1 := hn h0
    have : xs = [] := List.eq_nil_of_length_eq_zero (by omega)
    subst this
    exact hK _ w (.inl ⟨rfl, rfl, rfl⟩) (Ch.refl _ _)
  rw [wrap_i64 (by omega), show ((l.l : Int) + 3) = ((xs.length + 3 : Nat) : Int) by omega]
  refine mkP_intro TI6 (by omega) (by omega) fun w1 (hc1 : Ch [] w w1) hb1 hs1 => ?_
  rw [madeI] at hb1
  refine cpP_intro TI6 (x := l) (o := 0) (dl := xs.length + 3) (cs := Is .i64 xs) hb1 hn (by rw [Is_length, ll, Nat.mul_one]; exact (Nat.min_eq_left (by omega)).symm) (fun ad ha => cells_of_rd (hl.ch0 hc1) ha) (by simp) (Is_one _ _) fun w2 hc2 hb2 hs2 => ?_
  replace hc2 := Ch.of1 hc2
  generalize hcur : ((Is IntKind.i64 (List.replicate (xs.length + 3) 0)).toArray.toList.take 0 ++ Is .i64 xs ++ (Is IntKind.i64 (List.replicate (xs.length + 3) 0)).toArray.toList.drop (0 + (Is IntKind.i64 xs).length)).toArray = cur at hb2
  have hsz : cur.size = (xs.length + 3) * 1 := by rw [← hcur]; simp [Nat.add_sub_cancel_left]
  have hpre : ∀ j v, (Is .i64 xs)[j]? = some v → cur[j]? = some v := fun j v hv => by
    have hj := (List.getElem?_eq_some_iff.1 hv).1
    rw [← hcur, List.take_zero, List.nil_append, List.getElem?_toArray, List.getElem?_append_left hj]; exact hv
  clear hcur hb1
  refine loopP_inv (fun st w3 => ∃ (i : Nat) (cur : Array Value), st.1 = ((xs.length + i : Nat) : Int) ∧ i ≤ 3 ∧ Blk w3 w.heap.size cur 2 ∧ cur.size = (xs.length + 3) * 1 ∧ (∀ j v, (Is .i64 xs)[j]? = some v → cur[j]? = some v) ∧ (∀ i', i' < i → cur[xs.length + i']? = some (.int .i64 (-31))) ∧ Ch [] w w3) (fun st _ => xs.length + 3 - st.1.toNat)
    ⟨0, cur, by omega, by omega, hb2, hsz, hpre, fun i' h => by omega, hc1.trN hc2 (Nat.le_refl _)⟩ ?_
  rintro ⟨i0, u⟩ w3 next ⟨i, cur, rfl, hi, hb3, hsz, hpre, hmk, hc3⟩ hnext
  dsimp only
  refine iteB_dec (fun h => ?_) (fun h => ?_)
  · refine idxP_intro (by omega) (by omega) rfl ?_
    rw [Int.toNat_natCast, Nat.mul_one]
    refine stB hb3 (by omega) fun w4 hc4 hb4 hs4 => ?_
    rw [wrap_i64 (by omega)]
    refine hnext _ _ ⟨i + 1, _, by omega, by omega, hb4, by simpa using hsz, fun j v hv => ?_, fun i' hi' => ?_, hc3.trN hc4 (Nat.le_refl _)⟩ (by simp only []; omega)
    · have hj := (List.getElem?_eq_some_iff.1 hv).1
      simp only [Is_length] at hj
      rw [Array.getElem?_setIfInBounds_ne (by omega)]; exact hpre j v hv
    · rcases Nat.lt_or_ge i' i with h1 | h1
      · rw [Array.getElem?_setIfInBounds_ne (by omega)]; exact hmk i' h1
      · have : i' = i := by omega
        subst this
        rw [Array.getElem?_setIfInBounds_self_of_lt (by omega)]
  · have hi3 : i = 3 := by omega
    subst hi3
    refine slP_front' (n := xs.length) (by omega) (by omega) ?_
    refine hK _ w3 (.inr ⟨_, cur, Nat.le_refl _, rfl, hb3, hsz, hpre, fun i hi j v hv => ?_⟩) hc3
    unfold mk1 at hv
    match j, hv with
    | 0, hv =>
      have : v = .int .i64 (-31) := by simpa using hv.symm
      subst this
      rw [Nat.mul_one, Nat.add_zero]
      exact hmk i hi
    | j + 1, hv => simp at hv
end Go.Proofs.YtlnhecbgjjglfaaGreat
