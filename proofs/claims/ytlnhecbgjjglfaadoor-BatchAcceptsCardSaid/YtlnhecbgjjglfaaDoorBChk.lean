/- BChk: a batch looked over; the law BatchChecks. -/
import Derived.Test.YtlnhecbgjjglfaaDoorRepB
set_option linter.unusedVariables false
set_option linter.unusedSimpArgs false
namespace Go.Pl
def formT (x : Txm) : Int := if x.proc < 0 ∨ x.proc ≥ 64 then 61 else if x.args.length > 16 then 62 else if x.reads.length > 16 then 63 else if x.writes.length > 16 then 64 else if rises x.reads = true ∧ rises x.writes = true then 0 else 65
def soundT (ps : List LpM) (x : Txm) : Int := match ps[x.proc.toNat]? with
  | some p => if x.proc < 0 then 61 else if (x.args.length : Int) ≠ p.a then 62 else if (x.reads.length : Int) ≠ p.b then 63 else if (x.writes.length : Int) ≠ p.c then 64 else formT x
  | none => 61
def firstT (g : Txm → Int) : List Txm → Nat → Int × Int
  | [], _ => (0, 0)
  | x :: r, i => if g x ≠ 0 then ((i : Int), g x) else firstT g r (i + 1)
def chkT (g : Txm → Int) (xs : List Txm) : Int × Int := if xs.length > 64 then (0, 60) else firstT g xs 0
theorem firstT_drop {g : Txm → Int} {xs : List Txm} {i : Nat} (h : i < xs.length) : firstT g (xs.drop i) i = if g xs[i] ≠ 0 then ((i : Int), g xs[i]) else firstT g (xs.drop (i + 1)) (i + 1) := by
  rw [List.drop_eq_getElem_cons h]
  rfl
def sumB (xs : List Txm) : Nat := (xs.map fun x => 1 + x.args.length + x.reads.length + x.writes.length).sum
theorem sumB_take {xs : List Txm} {i : Nat} (h : i < xs.length) : sumB (xs.take (i + 1)) = sumB (xs.take i) + (1 + xs[i].args.length + xs[i].reads.length + xs[i].writes.length) := by
  unfold sumB
  rw [List.take_succ_eq_append_getElem h, List.map_append, List.sum_append]
  simp
theorem sumB_len : ∀ {xs : List Txm}, xs.length ≤ sumB xs
  | [] => Nat.le_refl _
  | x :: r => by
    have := sumB_len (xs := r)
    simp only [sumB, List.map_cons, List.sum_cons, List.length_cons] at *
    omega
theorem sumB_mem : ∀ {xs : List Txm} {x : Txm}, x ∈ xs → x.args.length + x.reads.length + x.writes.length ≤ sumB xs
  | y :: r, x, h => by
    simp only [sumB, List.map_cons, List.sum_cons]
    rcases List.mem_cons.1 h with rfl | h
    · omega
    · have := sumB_mem h
      simp only [sumB] at this
      omega
end Go.Pl
namespace Go.Proofs.YtlnhecbgjjglfaaDoor
open Go Go.Sh Go.Pl Go.RowKit Go.Gt
theorem partsL_ok {s : Slc} {ps : List LpM} {left : Int} {w : World} {K : Int → World → Prop} (hs : RdS w s ps) (big : ∀ x ∈ ps, x.nm ≤ 140737488351232 ∧ x.n ≤ 140737488351232) (hl : s.l ≤ 140737488351232) (h0 : -1000000000000000 ≤ left ∧ left ≤ 100000)
    (hK : ∀ n w', Ch [] w w' → (-1000000000000000 ≤ n ∧ n ≤ 100000) → K n w') : c_preluderef04_Parts s left w K := by
  refine sim_preluderef04_Parts ?_
  unfold sh_preluderef04_Parts
  have ls := hs.len
  refine loopP_inv (fun st w1 => ∃ i : Nat, st.2.1 = (i : Int) ∧ i ≤ ps.length ∧ (-1000000000000000 ≤ st.1 ∧ st.1 ≤ 100000) ∧ Ch [] w w1) (fun st _ => ps.length - st.2.1.toNat) ⟨0, rfl, Nat.zero_le _, h0, Ch.refl _ _⟩ ?_
  rintro ⟨n, i0, u⟩ w1 next ⟨i, rfl, hi, hn0, hc⟩ hnext
  dsimp only at hn0 ⊢
  refine iteB_dec (fun h => ?_) (fun h => hK n w1 hc hn0)
  have hlt : i < ps.length := by omega
  refine iteB_dec (fun hn => ?_) (fun hn => hK n w1 hc hn0)
  have hcd := hc.tr (Ch.drew w1)
  obtain ⟨g1, g2⟩ := big ps[i] (List.getElem_mem hlt)
  obtain ⟨ad, nm, cs, hA, ia⟩ := (hs.ch0 hcd).at' hlt
  have l1 := hA.sz
  have l2 := hA.ln
  refine ia _ _ rfl ⟨nm, hA.c0, ia _ _ rfl ?_⟩
  rw [Deep.add_add]
  refine ldS_of (s := cs) hA.c5 ?_
  rw [wrap_i64 (x := n - 1) (by omega), wrap_i64 (x := n - 1 - (nm.size : Int)) (by omega), wrap_i64 (x := n - 1 - (nm.size : Int) - (cs.l : Int)) (by omega), wrap_i64 (by omega)]
  exact hnext _ _ ⟨i + 1, by simp, hlt, by dsimp only; omega, hcd⟩ (by simp; omega)
theorem formed_ok {ad : Addr} {x : Txm} {ag rs ws : Slc} {w : World} {K : Int → World → Prop} (hA : TxAt w ad x ag rs ws) (hK : ∀ w', Ch [] w w' → K (formT x) w') : c_batch_formed x.proc ag rs ws w K := by
  refine sim_batch_formed ?_
  unfold sh_batch_formed
  have l1 := hA.fa.len
  have l2 := hA.fr.len
  have l3 := hA.fw.len
  rw [Is_length] at l1
  unfold formT at hK
  refine newB fun k w1 hc1 hb1 hk1 hs1 => ?_
  replace hA := hA.ch0 hc1
  refine ldI_b (o := 0) hb1 rfl (iteB_dec (fun h => ?_) fun h => ?_)
  · rw [if_pos (Or.inl h)] at hK; exact hK w1 hc1
  refine ldI_b (o := 0) hb1 rfl (iteB_dec (fun h' => ?_) fun h' => ?_)
  · rw [if_pos (Or.inr h')] at hK; exact hK w1 hc1
  rw [if_neg (fun hh => hh.elim h h')] at hK
  refine ldS_b (s := ag) hb1 rfl (iteB_dec (fun h => ?_) fun h => ?_)
  · rw [if_pos (by omega)] at hK; exact hK w1 hc1
  rw [if_neg (by omega)] at hK
  refine ldS_b (s := rs) hb1 rfl (iteB_dec (fun h => ?_) fun h => ?_)
  · rw [if_pos (by omega)] at hK; exact hK w1 hc1
  rw [if_neg (by omega)] at hK
  refine ldS_b (s := ws) hb1 rfl (iteB_dec (fun h => ?_) fun h => ?_)
  · rw [if_pos (by omega)] at hK; exact hK w1 hc1
  rw [if_neg (by omega)] at hK
  refine ldS_b (s := rs) hb1 rfl (rises_ok hA.fr (by omega) fun w2 hc2 => ?_)
  replace hA := hA.ch0 hc2
  replace hb1 := hb1.ch0 hc2
  replace hc2 := hc1.tr hc2
  cases hr : rises x.reads with
  | false => rw [hr, if_neg (by simp)] at hK; exact iteB_pos rfl (hK w2 hc2)
  | true =>
    rw [hr] at hK
    refine iteB_neg rfl (ldS_b (s := ws) hb1 rfl (rises_ok hA.fw (by omega) fun w3 hc3 => ?_))
    replace hc3 := hc2.tr hc3
    cases hw : rises x.writes with
    | false => rw [hw, if_neg (by simp)] at hK; exact iteB_pos rfl (hK w3 hc3)
    | true => rw [hw, if_pos (by simp)] at hK; exact iteB_neg rfl (hK w3 hc3)
theorem rformed_ok {ad : Addr} {x : Txm} {ag rs ws : Slc} {w : World} {K : Int → World → Prop} (hA : TxAt w ad x ag rs ws) (hK : ∀ w', Ch [] w w' → K (formT x) w') : c_preluderef06_Formed x.proc ag rs ws w K := by
  refine sim_preluderef06_Formed ?_
  unfold sh_preluderef06_Formed
  have l1 := hA.fa.len
  have l2 := hA.fr.len
  have l3 := hA.fw.len
  rw [Is_length] at l1
  unfold formT at hK
  refine newB fun k w1 hc1 hb1 hk1 hs1 => ?_
  replace hA := hA.ch0 hc1
  refine ldI_b (o := 0) hb1 rfl (iteB_dec (fun h => ?_) fun h => ?_)
  · rw [if_pos (Or.inl h)] at hK; exact hK w1 hc1
  refine ldI_b (o := 0) hb1 rfl (iteB_dec (fun h' => ?_) fun h' => ?_)
  · rw [if_pos (Or.inr h')] at hK; exact hK w1 hc1
  rw [if_neg (fun hh => hh.elim h h')] at hK
  refine ldS_b (s := ag) hb1 rfl (iteB_dec (fun h => ?_) fun h => ?_)
  · rw [if_pos (by omega)] at hK; exact hK w1 hc1
  rw [if_neg (by omega)] at hK
  refine ldS_b (s := rs) hb1 rfl (iteB_dec (fun h => ?_) fun h => ?_)
  · rw [if_pos (by omega)] at hK; exact hK w1 hc1
  rw [if_neg (by omega)] at hK
  refine ldS_b (s := ws) hb1 rfl (iteB_dec (fun h => ?_) fun h => ?_)
  · rw [if_pos (by omega)] at hK; exact hK w1 hc1
  rw [if_neg (by omega)] at hK
  refine ldS_b (s := rs) hb1 rfl (rrises_ok hA.fr (by omega) fun w2 hc2 => ?_)
  replace hA := hA.ch0 hc2
  replace hb1 := hb1.ch0 hc2
  replace hc2 := hc1.tr hc2
  refine ldS_b (s := ws) hb1 rfl (rrises_ok hA.fw (by omega) fun w3 hc3 => ?_)
  replace hc3 := hc2.tr hc3
  cases hr : rises x.reads with
  | false => rw [hr, if_neg (by simp)] at hK; exact iteB_pos rfl (hK w3 hc3)
  | true =>
    rw [hr] at hK
    refine iteB_neg rfl ?_
    cases hw : rises x.writes with
    | false => rw [hw, if_neg (by simp)] at hK; exact iteB_pos rfl (hK w3 hc3)
    | true => rw [hw, if_pos (by simp)] at hK; exact iteB_neg rfl (hK w3 hc3)
set_option maxHeartbeats 1000000 in
theorem fits_ok {lib : Slc} {ps : List LpM} {ad : Addr} {x : Txm} {ag rs ws : Slc} {w : World} {K : Int → World → Prop} (hL : RdS w lib ps) (hA : TxAt w ad x ag rs ws) (hK : ∀ w', Ch [] w w' → K (soundT ps x) w') : c_batch_fits lib x.proc ag rs ws w K := by
  refine sim_batch_fits ?_
  unfold sh_batch_fits
  have ll := hL.len
  have l1 := hA.fa.len
  have l2 := hA.fr.len
  have l3 := hA.fw.len
  rw [Is_length] at l1
  unfold soundT at hK
  refine newB fun k w1 hc1 hb1 hk1 hs1 => ?_
  replace hA := hA.ch0 hc1
  replace hL := hL.ch0 hc1
  refine ldI_b (o := 0) hb1 rfl (iteB_dec (fun h => ?_) fun h => ?_)
  · have e : (match ps[x.proc.toNat]? with | some p => if x.proc < 0 then (61 : Int) else if (x.args.length : Int) ≠ p.a then 62 else if (x.reads.length : Int) ≠ p.b then 63 else if (x.writes.length : Int) ≠ p.c then 64 else formT x | none => 61) = 61 := by
      split
      · rw [if_pos h]
      · rfl
    have := hK w1 hc1
    rwa [e] at this
  refine ldI_b (o := 0) hb1 rfl (iteB_dec (fun h' => ?_) fun h' => ?_)
  · rw [List.getElem?_eq_none (by omega)] at hK
    exact hK w1 hc1
  have hlt : x.proc.toNat < ps.length := by omega
  rw [List.getElem?_eq_getElem hlt] at hK
  dsimp only at hK
  rw [if_neg h] at hK
  obtain ⟨bd, nm, cs, hB, ib⟩ := hL.at' hlt
  refine ldI_b (o := 0) hb1 rfl (ib _ _ (by omega) ?_)
  simp only [Deep.add_add]
  refine ldI_of hB.c1 (ldI_of hB.c2 (ldI_of hB.c3 (ldI_of hB.c4 (ldS_of (s := cs) hB.c5 ?_))))
  refine newPr fun k2 w2 hc2 hb2 hk2 hs2 => ?_
  replace hA := hA.ch0 hc2
  replace hb1 := hb1.ch0 hc2
  replace hc2 := hc1.tr hc2
  refine ldS_b (s := ag) hb1 rfl (ldI_b (o := 0) hb2 rfl (iteB_ne (fun h => ?_) fun h => ?_))
  · rw [if_pos (by omega)] at hK; exact hK w2 hc2
  rw [if_neg (by omega)] at hK
  refine ldS_b (s := rs) hb1 rfl (ldI_b (o := 1) hb2 rfl (iteB_ne (fun h => ?_) fun h => ?_))
  · rw [if_pos (by omega)] at hK; exact hK w2 hc2
  rw [if_neg (by omega)] at hK
  refine ldS_b (s := ws) hb1 rfl (ldI_b (o := 2) hb2 rfl (iteB_ne (fun h => ?_) fun h => ?_))
  · rw [if_pos (by omega)] at hK; exact hK w2 hc2
  rw [if_neg (by omega)] at hK
  refine ldI_b (o := 0) hb1 rfl (ldS_b (s := ag) hb1 rfl (ldS_b (s := rs) hb1 rfl (ldS_b (s := ws) hb1 rfl ?_)))
  exact formed_ok hA fun w3 hc3 => hK w3 (hc2.tr hc3)
set_option maxHeartbeats 1000000 in
theorem sound_ok {lib : Slc} {ps : List LpM} {ad : Addr} {x : Txm} {ag rs ws : Slc} {w : World} {K : Int → World → Prop} (hL : RdS w lib ps) (hA : TxAt w ad x ag rs ws) (hK : ∀ w', Ch [] w w' → K (soundT ps x) w') : c_preluderef06_Sound lib x.proc ag rs ws w K := by
  refine sim_preluderef06_Sound ?_
  unfold sh_preluderef06_Sound
  have ll := hL.len
  have l1 := hA.fa.len
  have l2 := hA.fr.len
  have l3 := hA.fw.len
  rw [Is_length] at l1
  unfold soundT at hK
  refine newB fun k w1 hc1 hb1 hk1 hs1 => ?_
  replace hA := hA.ch0 hc1
  replace hL := hL.ch0 hc1
  refine ldI_b (o := 0) hb1 rfl (iteB_dec (fun h => ?_) fun h => ?_)
  · have e : (match ps[x.proc.toNat]? with | some p => if x.proc < 0 then (61 : Int) else if (x.args.length : Int) ≠ p.a then 62 else if (x.reads.length : Int) ≠ p.b then 63 else if (x.writes.length : Int) ≠ p.c then 64 else formT x | none => 61) = 61 := by
      split
      · rw [if_pos h]
      · rfl
    have := hK w1 hc1
    rwa [e] at this
  refine ldI_b (o := 0) hb1 rfl (iteB_dec (fun h' => ?_) fun h' => ?_)
  · rw [List.getElem?_eq_none (by omega)] at hK
    exact hK w1 hc1
  have hlt : x.proc.toNat < ps.length := by omega
  rw [List.getElem?_eq_getElem hlt] at hK
  dsimp only at hK
  rw [if_neg h] at hK
  obtain ⟨bd, nm, cs, hB, ib⟩ := hL.at' hlt
  refine ldI_b (o := 0) hb1 rfl (ib _ _ (by omega) ?_)
  simp only [Deep.add_add]
  refine ldI_of hB.c1 (ldI_of hB.c2 (ldI_of hB.c3 (ldI_of hB.c4 (ldS_of (s := cs) hB.c5 ?_))))
  refine newPr fun k2 w2 hc2 hb2 hk2 hs2 => ?_
  replace hA := hA.ch0 hc2
  replace hb1 := hb1.ch0 hc2
  replace hc2 := hc1.tr hc2
  refine ldS_b (s := ag) hb1 rfl (ldI_b (o := 0) hb2 rfl (iteB_ne (fun h => ?_) fun h => ?_))
  · rw [if_pos (by omega)] at hK; exact hK w2 hc2
  rw [if_neg (by omega)] at hK
  refine ldS_b (s := rs) hb1 rfl (ldI_b (o := 1) hb2 rfl (iteB_ne (fun h => ?_) fun h => ?_))
  · rw [if_pos (by omega)] at hK; exact hK w2 hc2
  rw [if_neg (by omega)] at hK
  refine ldS_b (s := ws) hb1 rfl (ldI_b (o := 2) hb2 rfl (iteB_ne (fun h => ?_) fun h => ?_))
  · rw [if_pos (by omega)] at hK; exact hK w2 hc2
  rw [if_neg (by omega)] at hK
  refine ldI_b (o := 0) hb1 rfl (ldS_b (s := ag) hb1 rfl (ldS_b (s := rs) hb1 rfl (ldS_b (s := ws) hb1 rfl ?_)))
  exact rformed_ok hA fun w3 hc3 => hK w3 (hc2.tr hc3)
theorem rcheck_ok {lib b : Slc} {ps : List LpM} {xs : List Txm} {w : World} {K : Int → Int → World → Prop} (hL : RdS w lib ps) (hb : RdB w b xs) (hK : ∀ w', Ch [] w w' → K (chkT (soundT ps) xs).1 (chkT (soundT ps) xs).2 w') : c_preluderef06_Check lib b w K := by
  refine sim_preluderef06_Check ?_
  unfold sh_preluderef06_Check
  have lb := hb.len
  unfold chkT at hK
  refine iteB_dec (fun h => ?_) (fun h => ?_)
  · rw [if_pos (by omega)] at hK; exact hK w (Ch.refl _ _)
  rw [if_neg (by omega)] at hK
  refine loopP_inv (fun st w1 => ∃ i : Nat, st.1 = (i : Int) ∧ i ≤ xs.length ∧ Ch [] w w1 ∧ firstT (soundT ps) xs 0 = firstT (soundT ps) (xs.drop i) i) (fun st _ => xs.length - st.1.toNat) ⟨0, rfl, Nat.zero_le _, Ch.refl _ _, rfl⟩ ?_
  rintro ⟨i0, u⟩ w1 next ⟨i, rfl, hi, hc, he⟩ hnext
  dsimp only
  refine iteB_dec (fun h => ?_) (fun h => ?_)
  · have hlt : i < xs.length := by omega
    rw [firstT_drop hlt] at he
    obtain ⟨ad, ag, rs, ws, hA, ia⟩ := (hb.ch0 hc).at' hlt
    refine ia _ _ rfl (ldTx hA ?_)
    refine sound_ok (hL.ch0 hc) hA fun w2 hc2 => ?_
    replace hc2 := hc.tr hc2
    refine iteB_ne (fun h => ?_) (fun h => ?_)
    · rw [if_pos h] at he
      rw [he] at hK
      exact hK w2 hc2
    · rw [if_neg (fun hh => hh h)] at he
      rw [wrap_i64 (by omega)]
      exact hnext _ _ ⟨i + 1, by simp, hlt, hc2, he⟩ (by simp; omega)
  · have hie : i = xs.length := by omega
    subst hie
    rw [he, List.drop_length] at hK
    exact hK w1 hc
set_option maxHeartbeats 1000000 in
theorem first_ok {b : Slc} {f : Value} {g : Txm → Int} {xs : List Txm} {w : World} {K : Int → Int → World → Prop} (hb : RdB w b xs)
    (hf : ∀ (x : Txm) (ag rs ws : Slc) (ad : Addr) (w1 : World) (K' : Int → World → Prop), Ch [] w w1 → TxAt w1 ad x ag rs ws → (∀ w2, Ch [] w1 w2 → K' (g x) w2) →
      cvP Tryd.prog f [.agg #[.int .i64 x.proc, .slice ag.a ag.l ag.c, .slice rs.a rs.l rs.c, .slice ws.a ws.l ws.c]] w1 fun v w2 => ∃ r : Int, v = .int .i64 r ∧ K' r w2)
    (hK : ∀ w', Ch [] w w' → K (chkT g xs).1 (chkT g xs).2 w') : c_batch_first b f w K := by
  refine sim_batch_first ?_
  unfold sh_batch_first
  have lb := hb.len
  unfold chkT at hK
  refine iteB_dec (fun h => ?_) (fun h => ?_)
  · rw [if_pos (by omega)] at hK; exact hK w (Ch.refl _ _)
  rw [if_neg (by omega)] at hK
  refine loopP_inv (fun st w1 => ∃ i : Nat, st.1 = (i : Int) ∧ i ≤ xs.length ∧ Ch [] w w1 ∧ firstT g xs 0 = firstT g (xs.drop i) i) (fun st _ => xs.length - st.1.toNat) ⟨0, rfl, Nat.zero_le _, Ch.refl _ _, rfl⟩ ?_
  rintro ⟨i0, u⟩ w1 next ⟨i, rfl, hi, hc, he⟩ hnext
  dsimp only
  refine iteB_dec (fun h => ?_) (fun h => ?_)
  · have hlt : i < xs.length := by omega
    rw [firstT_drop hlt] at he
    obtain ⟨ad, ag, rs, ws, hA, ia⟩ := (hb.ch0 hc).at' hlt
    refine ia _ _ rfl (ldTx hA ?_)
    refine newTx fun k1 w2 hc2 hb2 hk2 hs2 => ?_
    replace hA := hA.ch0 hc2
    replace hc2 := hc.tr hc2
    refine ldI_b (o := 0) hb2 rfl (ldS_b (s := ag) hb2 rfl (ldS_b (s := rs) hb2 rfl (ldS_b (s := ws) hb2 rfl ?_)))
    refine hf xs[i] ag rs ws ad w2 (fun r w3 => iteB (r != 0) (K (i : Int) r w3) (next (IntKind.i64.wrap ((i : Int) + 1), ()) w3)) hc2 hA fun w3 hc3 => ?_
    replace hc3 := hc2.tr hc3
    refine iteB_ne (fun h => ?_) (fun h => ?_)
    · rw [if_pos h] at he
      rw [he] at hK
      exact hK w3 hc3
    · rw [if_neg (fun hh => hh h)] at he
      rw [wrap_i64 (by omega)]
      exact hnext _ _ ⟨i + 1, by simp, hlt, hc3, he⟩ (by simp; omega)
  · have hie : i = xs.length := by omega
    subst hie
    rw [he, List.drop_length] at hK
    exact hK w1 hc
theorem callable_Check1 : callable Tryd.prog 26 = true := by kernel_rfl
set_option maxRecDepth 8000 in
theorem call_Check1 {p : Int} {ag rs ws : Slc} {cap : Addr} {w : World} {K : Int → World → Prop} (h : c_batch_Check_1 p ag rs ws cap w K) :
    cvP Tryd.prog (.func (.func 26) #[] #[.pointer (some cap)]) [.agg #[.int .i64 p, .slice ag.a ag.l ag.c, .slice rs.a rs.l rs.c, .slice ws.a ws.l ws.c]] w (fun v w2 => ∃ r : Int, v = .int .i64 r ∧ K r w2) :=
  cvP_of callable_Check1 h
set_option maxRecDepth 20000 in
theorem bcheck_ok {lib b : Slc} {ps : List LpM} {xs : List Txm} {w : World} {K : Int → Int → World → Prop} (hL : RdS w lib ps) (hb : RdB w b xs) (hK : ∀ w', Ch [] w w' → K (chkT (soundT ps) xs).1 (chkT (soundT ps) xs).2 w') : c_batch_Check lib b w K := by
  refine sim_batch_Check ?_
  unfold sh_batch_Check
  refine newB fun k w1 hc1 hb1 hk1 hs1 => ?_
  refine first_ok (g := soundT ps) (hb.ch0 hc1) (fun x ag rs ws ad w2 K' hc2 hA hK' => ?_) fun w2 hc2 => hK w2 (hc1.tr hc2)
  refine call_Check1 ?_
  refine sim_batch_Check_1 ?_
  unfold sh_batch_Check_1
  refine newB fun k3 w3 hc3 hb3 hk3 hs3 => ?_
  refine ldS_b (o := 0) (s := lib) ((hb1.ch0 hc2).ch0 hc3) rfl ?_
  refine ldI_b (o := 0) hb3 rfl (ldS_b (s := ag) hb3 rfl (ldS_b (s := rs) hb3 rfl (ldS_b (s := ws) hb3 rfl ?_)))
  exact fits_ok (((hL.ch0 hc1).ch0 hc2).ch0 hc3) (hA.ch0 hc3) fun w4 hc4 => hK' w4 (hc3.tr hc4)
end Go.Proofs.YtlnhecbgjjglfaaDoor
