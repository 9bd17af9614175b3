/- LookB: lang.look, Depths, Verify, Longest. -/
import Derived.Test.YthgkehldimldgaaDoorLook
set_option linter.unusedVariables false
set_option linter.unusedSimpArgs false
namespace Go.Lang
theorem wy_len (x : Ins) (i : Nat) : (wy x i).length ≤ 2 := by
  unfold wy
  split
  · simp
  · split
    · simp
    · split <;> simp
theorem mv_rng (op : Int) : (0 ≤ (mv op).1 ∧ (mv op).1 ≤ 2) ∧ 0 ≤ (mv op).2 ∧ (mv op).2 ≤ 2 := by
  unfold mv
  repeat' split
  all_goals decide
theorem chk_drop {a b c d : Int} {n : Nat} {l : List Ins} {i : Nat} (h : i < l.length) : chk a b c d n (l.drop i) i = if insE a b c d n l[i] i ≠ 0 then insE a b c d n l[i] i else chk a b c d n (l.drop (i + 1)) (i + 1) := by
  rw [List.drop_eq_getElem_cons h]
  rfl
theorem stepD_neg {c : List Ins} {d : List Int} {i : Nat} (hi : i < c.length) (hd : i < d.length) (h : d[i] < 0) : stepD c d i = some d := by
  unfold stepD
  rw [List.getElem?_eq_getElem hi, List.getElem?_eq_getElem hd]
  simp only []
  rw [if_pos h]
theorem stepD_bad {c : List Ins} {d : List Int} {i : Nat} (hi : i < c.length) (hd : i < d.length) (h : ¬ d[i] < 0) (hb : d[i] < (mv c[i].1).1 ∨ d[i] - (mv c[i].1).1 + (mv c[i].1).2 > 32) : stepD c d i = none := by
  unfold stepD
  rw [List.getElem?_eq_getElem hi, List.getElem?_eq_getElem hd]
  simp only []
  rw [if_neg h, if_pos hb]
theorem stepD_go {c : List Ins} {d : List Int} {i : Nat} (hi : i < c.length) (hd : i < d.length) (h : ¬ d[i] < 0) (hb : ¬ (d[i] < (mv c[i].1).1 ∨ d[i] - (mv c[i].1).1 + (mv c[i].1).2 > 32)) : stepD c d i = putAll (d[i] - (mv c[i].1).1 + (mv c[i].1).2) (wy c[i] i) d := by
  unfold stepD
  rw [List.getElem?_eq_getElem hi, List.getElem?_eq_getElem hd]
  simp only []
  rw [if_neg h, if_neg hb]
theorem put1_no {m : Int} {d : List Int} {j : Int} (hj : j.toNat < d.length) (h : 0 ≤ d[j.toNat] ∧ d[j.toNat] ≠ m) : put1 m d j = none := by
  unfold put1
  rw [List.getElem?_eq_getElem hj]
  simp only []
  rw [if_pos h]
theorem put1_yes {m : Int} {d : List Int} {j : Int} (hj : j.toNat < d.length) (h : ¬ (0 ≤ d[j.toNat] ∧ d[j.toNat] ≠ m)) : put1 m d j = some (d.set j.toNat m) := by
  unfold put1
  rw [List.getElem?_eq_getElem hj]
  simp only []
  rw [if_neg h]
theorem d0_len (n : Nat) : (d0 n).length = n + 1 := by simp [d0]
end Go.Lang
namespace Go.Proofs.YthgkehldimldgaaDoor
open Go Go.Sh Go.Pl Go.RowKit Go.Lang
/-- A list of depths that was handed out. -/
def DOut (n : Nat) (w : World) (s : Slc) (ds : List Int) : Prop := (ds = [] ∧ s = ⟨none, 0, 0⟩) ∨ ∃ b, n ≤ b ∧ s = ⟨some ⟨b, 0, none⟩, ds.length, ds.length⟩ ∧ RowI w b .i64 3 ds
theorem DOut.rd {n : Nat} {w : World} {s : Slc} {ds : List Int} (h : DOut n w s ds) : Rd w s (Is .i64 ds) := by
  rcases h with ⟨rfl, rfl⟩ | ⟨b, _, rfl, h⟩
  · exact Rd.nil _ _
  · exact h.rd
theorem DOut.le {n m : Nat} {w : World} {s : Slc} {ds : List Int} (h : DOut n w s ds) (hm : m ≤ n) : DOut m w s ds := by
  rcases h with h | ⟨b, h1, h2⟩
  · exact .inl h
  · exact .inr ⟨b, by omega, h2⟩
theorem DOut.ge {n : Nat} {w : World} {s : Slc} {ds : List Int} (h : DOut n w s ds) : Ge n (blkOf s) := by
  rcases h with ⟨_, rfl⟩ | ⟨b, hb, rfl, h⟩
  · intro k hk; cases hk
  · intro k hk; cases hk; exact hb
theorem DOut.ch0 {n : Nat} {w w' : World} {s : Slc} {ds : List Int} (h : DOut n w s ds) (hc : Ch [] w w') : DOut n w' s ds := by
  rcases h with h | ⟨b, h1, h2, h3⟩
  · exact .inl h
  · exact .inr ⟨b, h1, h2, h3.ch0 hc⟩
set_option maxRecDepth 20000 in
set_option maxHeartbeats 1000000 in
theorem look_ok {a b c d : Int} {s : Slc} {is : List (Int × Int)} {w : World} {K : Slc → Int → World → Prop} (hs : RdC w s is) (hl : is.length ≤ 8800000000000)
    (hK : ∀ s' w', DOut w.heap.size w' s' (depths a b c d is).1 → Ch [] w w' → K s' (depths a b c d is).2 w') : c_lang_look a b c d s w K := by
  refine sim_lang_look ?_
  unfold sh_lang_look
  have ls := hs.len
  refine newB fun k1 w1 hc1 hb1 hk1 hs1 => ?_
  refine ldPr (s := s) hb1 ?_
  refine sizes_ok fun w2 (hc2 : Ch [] w1 w2) => ?_
  rw [ls]
  replace hb1 := hb1.ch0 hc2
  replace hc2 := hc1.tr hc2
  clear hc1 hs1
  unfold depths at hK
  by_cases hok : okP a b c d is.length = false
  · rw [if_pos hok] at hK
    rw [hok]
    exact iteB_pos (by simp) (hK _ w2 (.inl ⟨rfl, rfl⟩) hc2)
  rw [if_neg hok] at hK
  have hok : okP a b c d is.length = true := by simpa using hok
  have h256 := (okP_rng hok).2.2.2.2
  rw [hok]
  refine iteB_neg (by simp) ?_
  refine ldS_b (s := s) hb1 rfl ?_
  refine loopP_inv (fun st w3 => ∃ i : Nat, st.1 = (i : Int) ∧ i ≤ is.length ∧ Ch [] w2 w3 ∧ chk a b c d is.length (is.drop i) i = chk a b c d is.length is 0) (fun st _ => is.length - st.1.toNat) ⟨0, rfl, Nat.zero_le _, Ch.refl _ _, by simp⟩ ?_
  rintro ⟨i0, u⟩ w3 next ⟨i, rfl, hi, hc3, hchk⟩ hnext
  dsimp only
  have hs3 : RdC w3 s is := hs.ch0 (hc2.tr hc3)
  refine iteB_intro (fun h => ?_) (fun h => ?_)
  · have hlt : i < is.length := by simp [ls] at h; omega
    rw [chk_drop hlt] at hchk
    refine hs3.idx rfl hlt fun ad h1 h2 => ldI_of h1 (ldI_of h2 ?_)
    refine newIn fun k4 w4 hc4 hb4 hk4 hs4 => ?_
    replace hc4 := hc3.tr hc4
    refine ldI_b (o := 0) hb4 rfl (within_ok ?_)
    have bad : ∀ w', Ch [] w2 w' → insE a b c d is.length is[i] i ≠ 0 → K ⟨none, 0, 0⟩ (insE a b c d is.length is[i] i) w' := fun w' hc' hne => by
      rw [if_pos hne] at hchk
      rw [← hchk, if_pos hne] at hK
      exact hK _ w' (.inl ⟨rfl, rfl⟩) (hc2.tr hc')
    refine iteB_intro (fun hb => ?_) (fun hb => ?_)
    · have e : insE a b c d is.length is[i] i = 31 := by
        unfold insE; rw [if_pos (by simp at hb; omega)]
      rw [e] at bad
      exact bad w4 hc4 (by decide)
    · have e : insE a b c d is.length is[i] i = argE a b c d is.length is[i] i := by
        unfold insE; rw [if_neg (by simp at hb; omega)]
      rw [e] at bad hchk
      refine ldPr (s := s) (hb1.ch0 hc4) ?_
      refine argument_ok (hs.ch0 (hc2.tr hc4)) hlt hok fun w5 hc5 => ?_
      replace hc5 := hc4.tr hc5
      refine iteB_intro (fun hb => bad w5 hc5 (by simpa using hb)) (fun hb => ?_)
      have h0 : ¬ argE a b c d is.length is[i] i ≠ 0 := by simpa using hb
      rw [if_neg h0] at hchk
      rw [wrap_i64 (by omega)]
      exact hnext _ _ ⟨i + 1, by simp, hlt, hc5, hchk⟩ (by simp; omega)
  have hie : i = is.length := by simp [ls] at h; omega
  subst hie
  rw [List.drop_length] at hchk
  have hchk : chk a b c d is.length is 0 = 0 := hchk.symm
  rw [if_neg (by rw [hchk]; decide)] at hK
  have hways := chk_ways hchk (by omega)
  simp only [Nat.zero_add, Int.natCast_zero, Int.zero_add] at hways
  clear hnext h
  replace hb1 := hb1.ch0 hc3
  replace hc3 := hc2.tr hc3
  refine ldS_b (s := s) hb1 rfl ?_
  rw [wrap_i64 (by omega), show ((s.l : Int) + 1) = ((is.length + 1 : Nat) : Int) by omega]
  refine mkP_intro TI64 (by omega) (by omega) fun w4 (hc4 : Ch [] w3 w4) hb4 hs4 => ?_
  rw [madeI] at hb4
  have hb3 := hb1.below
  replace hb1 := hb1.ch0 hc4
  replace hc4 := hc3.tr hc4
  have hkd : w.heap.size ≤ w3.heap.size := hc3.size
  generalize w3.heap.size = kd at *
  clear hc3 hs3 hc2
  -- all places: -1
  refine loopP_inv (fun st w5 => ∃ i : Nat, st.1 = (i : Int) ∧ i ≤ is.length + 1 ∧ Ch [] w w5 ∧ Ch [some kd] w4 w5 ∧ RowI w5 kd .i64 3 (List.replicate i (-1) ++ List.replicate (is.length + 1 - i) 0)) (fun st _ => is.length + 1 - st.1.toNat)
    ⟨0, rfl, Nat.zero_le _, hc4, Ch.refl _ _, by simpa [RowI] using hb4⟩ ?_
  rintro ⟨i0, u⟩ w5 next ⟨i, rfl, hi, hc5, hck5, hr5⟩ hnext
  dsimp only
  refine iteB_intro (fun h => ?_) (fun h => ?_)
  · have hlt : i < is.length + 1 := by simp at h; omega
    refine hr5.set (by simp; omega) (by omega) (by simp; omega) fun w6 hc6 hr6 hs6 => ?_
    rw [wrap_i64 (by omega)]
    refine hnext _ _ ⟨i + 1, by simp, hlt, hc5.trN hc6 (by omega), hck5.tr hc6, ?_⟩ (by simp; omega)
    have e : (List.replicate i (-1 : Int) ++ List.replicate (is.length + 1 - i) 0).set (Int.toNat (i : Int)) (-1) = List.replicate (i + 1) (-1) ++ List.replicate (is.length + 1 - (i + 1)) 0 := by
      rw [Int.toNat_natCast, List.set_append, if_neg (by simp)]
      rw [show is.length + 1 - i = (is.length + 1 - (i + 1)) + 1 by omega, List.replicate_succ, List.replicate_succ']
      simp
    rw [e] at hr6; exact hr6
  have hie : i = is.length + 1 := by simp at h; omega
  subst hie
  clear hnext h
  rw [Nat.sub_self, List.replicate_zero, List.append_nil] at hr5
  refine hr5.set (by simp) (by omega) (by simp) fun w6 hc6 hr6 hs6 => ?_
  have e0 : (List.replicate (is.length + 1) (-1 : Int)).set (Int.toNat 0) 0 = d0 is.length := by simp [d0, List.replicate_succ]
  rw [e0] at hr6
  replace hb1 := (hb1.ch hck5 (nin1' (by omega))).ch hc6 (nin1' (by omega))
  replace hc6 := hc5.trN hc6 (by omega)
  clear hr5 hck5 hc5 hb4 hc4
  refine ldS_b (s := s) hb1 rfl ?_
  have hs6' : RdC w6 s is := hs.ch0 hc6
  refine loopP_inv (fun st w7 => ∃ (i : Nat) (ds : List Int), st.1 = false ∧ st.2.1 = (i : Int) ∧ i ≤ is.length ∧ Ch [] w w7 ∧ RowI w7 kd .i64 3 ds ∧ ds.length = is.length + 1 ∧ (∀ x ∈ ds, -1 ≤ x ∧ x ≤ 32) ∧ walkD is (is.length - i) ds i = walkD is is.length (d0 is.length) 0) (fun st _ => is.length - st.2.1.toNat)
    ⟨0, d0 is.length, rfl, rfl, Nat.zero_le _, hc6, hr6, d0_len _, by simp [d0], rfl⟩ ?_
  rintro ⟨bad0, i0, u⟩ w7 next ⟨i, ds, rfl, rfl, hi, hc7, hr7, hdl, hrng, hwalk⟩ hnext
  dsimp only
  refine iteB_intro (fun h => ?_) (fun h => ?_)
  · have hlt : i < is.length := by simp [ls] at h; omega
    have hdi : i < ds.length := by omega
    have hstep : walkD is (is.length - i) ds i = (stepD is ds i).bind fun d => walkD is (is.length - (i + 1)) d (i + 1) := by
      rw [show is.length - i = (is.length - (i + 1)) + 1 by omega]; rfl
    have hwi : IntKind.i64.wrap ((i : Int) + 1) = ((i + 1 : Nat) : Int) := by rw [wrap_i64 (by omega)]; simp
    rw [hwi]
    have bad : ∀ w', Ch [] w w' → stepD is ds i = none → K ⟨none, 0, 0⟩ 34 w' := fun w' hc' hn => by
      rw [hstep, hn] at hwalk
      rw [← show none = walkD is is.length (d0 is.length) 0 from hwalk] at hK
      exact hK _ w' (.inl ⟨rfl, rfl⟩) hc'
    refine (hs.ch0 hc7).idx rfl hlt fun ad h1 h2 => ldI_of h1 (ldI_of h2 ?_)
    refine newIn fun k8 w8 hc8 hb8 hk8 hs8 => ?_
    replace hr7 := hr7.ch0 hc8
    replace hc8 := hc7.tr hc8
    refine hr7.get (v := ds[i]) hdl.symm (by omega) (by simp) ?_
    have hx := hrng ds[i] (List.getElem_mem _)
    refine iteB_intro (fun hneg => ?_) (fun hneg => ?_)
    · rw [hstep, stepD_neg hlt hdi (by simpa using hneg)] at hwalk
      exact hnext _ _ ⟨i + 1, ds, rfl, rfl, hlt, hc8, hr7, hdl, hrng, hwalk⟩ (by simp; omega)
    have hneg : ¬ ds[i] < 0 := by simpa using hneg
    have hop := (hways i is[i] (by simp)).1
    have hto := (hways i is[i] (by simp)).2
    refine ldI_b (o := 0) hb8 rfl (moves_ok hop.1 hop.2 ?_)
    have hmv := mv_rng is[i].1
    have hnb := stepD_bad hlt hdi hneg
    have hgo := stepD_go hlt hdi hneg
    generalize mv is[i].1 = m at *
    refine iteB_intro (fun hb => bad w8 hc8 (hnb (.inl (by simpa using hb)))) (fun hb => ?_)
    have hb : ¬ ds[i] < m.1 := by simpa using hb
    rw [wrap_i64 (x := ds[i] - m.1) (by omega), wrap_i64 (by omega)]
    refine iteB_intro (fun hb' => bad w8 hc8 (hnb (.inr (by simpa using hb')))) (fun hb' => ?_)
    have hb' : ¬ ds[i] - m.1 + m.2 > 32 := by simpa using hb'
    have hgo := hgo (by omega)
    have hv : 0 ≤ ds[i] - m.1 + m.2 ∧ ds[i] - m.1 + m.2 ≤ 32 := by omega
    clear hnb hmv hneg hb hb'
    generalize ds[i] - m.1 + m.2 = v at *
    refine ldI_b (o := 0) hb8 rfl (ldI_b hb8 rfl ?_)
    refine ways_ok (by omega) fun sw w9 hrw hc9 hgw => ?_
    have hkl := hr7.below
    replace hr7 := hr7.ch0 hc9
    have hgw' : ∀ k, blkOf sw = some k → k ≠ kd := fun k hk he => by have := hgw k hk; omega
    replace hc9 := hc8.tr hc9
    have hwl := wy_len is[i] i
    have lw := hrw.len
    simp only [Is_length] at lw
    clear hgw hc8 hb8 hs8 hk8
    generalize wy is[i] i = ws at *
    refine loopP_inv (fun st w10 => ∃ (j : Nat) (es : List Int), st.1 = false ∧ st.2.1 = (j : Int) ∧ j ≤ ws.length ∧ Ch [] w w10 ∧ Ch [some kd] w9 w10 ∧ RowI w10 kd .i64 3 es ∧ es.length = is.length + 1 ∧ (∀ x ∈ es, -1 ≤ x ∧ x ≤ 32) ∧ putAll v (ws.drop j) es = putAll v ws ds) (fun st _ => ws.length - st.2.1.toNat)
      ⟨0, ds, rfl, rfl, Nat.zero_le _, hc9, Ch.refl _ _, hr7, hdl, hrng, rfl⟩ ?_
    rintro ⟨bad1, j0, u⟩ w10 next' ⟨j, es, rfl, rfl, hj, hc10, hck10, hr10, hel, hern, hput⟩ hnext'
    dsimp only
    refine iteB_intro (fun h => ?_) (fun h => ?_)
    · have hjlt : j < ws.length := by simp [lw] at h; omega
      have hrw10 : Rd w10 sw (Is .i64 ws) := hrw.ch hck10 fun k hk => nin1' (hgw' k hk)
      refine hrw10.get (v := ws[j]) (by omega) (by simp) ?_
      have ht := hto ws[j] (List.getElem_mem _)
      have htl : ws[j].toNat < es.length := by omega
      rw [List.drop_eq_getElem_cons hjlt, putAll_cons] at hput
      generalize ws[j] = t at *
      refine hr10.get (v := es[t.toNat]) hel.symm (by omega) (by simp) ?_
      have put : ¬ (0 ≤ es[t.toNat] ∧ es[t.toNat] ≠ v) → idxP (some ⟨kd, 0, none⟩) (is.length + 1) t 1 fun a77 => stP a77 (.int .i64 v) w10 fun w78 => next' (false, (IntKind.i64.wrap ((j : Int) + 1)), ()) w78 := fun hno => by
        rw [put1_yes htl hno] at hput
        refine hr10.set hel.symm (by omega) htl fun w11 hc11 hr11 hs11 => ?_
        rw [wrap_i64 (by omega)]
        exact hnext' _ _ ⟨j + 1, es.set t.toNat v, rfl, by simp, hjlt, hc10.trN hc11 (by omega), hck10.tr hc11, hr11, by simpa using hel, fun x hx => by
          rcases List.mem_or_eq_of_mem_set hx with h | h
          · exact hern x h
          · omega, hput⟩ (by simp; omega)
      refine iteB_intro (fun hp => ?_) (fun hp => put (by simp at hp; omega))
      refine hr10.get (v := es[t.toNat]) hel.symm (by omega) (by simp) ?_
      refine iteB_intro (fun hq => ?_) (fun hq => put (by simp at hq; omega))
      rw [put1_no htl ⟨by simpa using hp, by simpa using hq⟩] at hput
      exact bad w10 hc10 (by rw [hgo]; exact hput.symm)
    · have hje : j = ws.length := by simp [lw] at h; omega
      subst hje
      rw [List.drop_length] at hput
      rw [hstep, hgo, ← hput] at hwalk
      exact hnext _ _ ⟨i + 1, es, rfl, rfl, hlt, hc10, hr10, hel, hern, hwalk⟩ (by simp; omega)
  have hie : i = is.length := by simp [ls] at h; omega
  subst hie
  rw [Nat.sub_self] at hwalk
  rw [← show some ds = walkD is is.length (d0 is.length) 0 from hwalk] at hK
  refine iteB_neg rfl (hK _ w7 (.inr ⟨kd, hkd, ?_, hr7⟩) hc7)
  simp only [hdl]
theorem verify_ok {a b c d : Int} {s : Slc} {is : List (Int × Int)} {w : World} {K : Int → World → Prop} (hs : RdC w s is) (hl : is.length ≤ 8800000000000)
    (hK : ∀ w', Ch [] w w' → K (depths a b c d is).2 w') : c_lang_Verify a b c d s w K := by
  refine sim_lang_Verify ?_
  unfold sh_lang_Verify
  refine newB fun k1 w1 hc1 hb1 hk1 hs1 => ?_
  refine ldPr (s := s) hb1 ?_
  exact look_ok (hs.ch0 hc1) hl fun s' w' h hc => hK w' (hc1.tr hc)
end Go.Proofs.YthgkehldimldgaaDoor
