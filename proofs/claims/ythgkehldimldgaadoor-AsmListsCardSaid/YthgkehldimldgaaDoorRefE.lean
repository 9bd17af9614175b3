/- RefE: the document's Depths, Verify. -/
import Derived.Test.YthgkehldimldgaaDoorRefD
set_option linter.unusedVariables false
set_option linter.unusedSimpArgs false
namespace Go.Proofs.YthgkehldimldgaaDoor
open Go Go.Sh Go.Pl Go.RowKit Go.Lang Go.Names
set_option maxRecDepth 20000 in
set_option maxHeartbeats 2000000 in
theorem refDepths_ok {a b c d : Int} {s : Slc} {is : List (Int × Int)} {w : World} {K : Slc → Int → World → Prop} (hs : RdC w s is) (hl : is.length ≤ 8800000000000)
    (hK : ∀ s' w', Rd w' s' (Is .i64 (depths a b c d is).1) → Ch [] w w' → Ge w.heap.size (blkOf s') → K s' (depths a b c d is).2 w') : c_preluderef03_Depths a b c d s w K := by
  refine sim_preluderef03_Depths ?_
  unfold sh_preluderef03_Depths
  have ls := hs.len
  refine newB fun k1 w1 hc1 hb1 hk1 hs1 => ?_
  refine ldPr (s := s) hb1 ?_
  refine limits_ok fun w2 (hc2 : Ch [] w1 w2) => ?_
  rw [ls]
  replace hb1 := hb1.ch0 hc2
  replace hc2 := hc1.tr hc2
  clear hc1 hs1
  unfold depths at hK
  by_cases hok : okP a b c d is.length = false
  · rw [if_pos hok] at hK
    rw [hok]
    exact iteB_pos (by simp) (hK _ w2 (Rd.nil _ _) hc2 (fun k h => by cases h))
  rw [if_neg hok] at hK
  have hok : okP a b c d is.length = true := by simpa using hok
  have h256 := (okP_rng hok).2.2.2.2
  rw [hok]
  refine iteB_neg (by simp) ?_
  refine loopP_inv (fun st w3 => ∃ i : Nat, st.1 = (i : Int) ∧ i ≤ is.length ∧ Ch [] w2 w3 ∧ chk a b c d is.length (is.drop i) i = chk a b c d is.length is 0) (fun st _ => is.length - st.1.toNat) ⟨0, rfl, Nat.zero_le _, Ch.refl _ _, by simp⟩ ?_
  rintro ⟨i0, u⟩ w3 next ⟨i, rfl, hi, hc3, hchk⟩ hnext
  dsimp only
  have hs3 : RdC w3 s is := hs.ch0 (hc2.tr hc3)
  refine ldS_b (s := s) (hb1.ch0 hc3) rfl ?_
  refine iteB_intro (fun h => ?_) (fun h => ?_)
  · have hlt : i < is.length := by simp [ls] at h; omega
    rw [chk_drop hlt] at hchk
    refine ldS_b (s := s) (hb1.ch0 hc3) rfl ?_
    refine hs3.idx rfl hlt fun ad h1 h2 => ldI_of h1 (ldI_of h2 ?_)
    refine newIn fun k4 w4 hc4 hb4 hk4 hs4 => ?_
    replace hc4 := hc3.tr hc4
    have bad : ∀ (z : Int) w', insE a b c d is.length is[i] i = z → z ≠ 0 → Ch [] w2 w' → K ⟨none, 0, 0⟩ z w' := fun z w' hz hne hc' => by
      subst hz
      rw [if_pos hne] at hchk
      rw [← hchk, if_pos hne] at hK
      exact hK _ w' (Rd.nil _ _) (hc2.tr hc') (fun k h => by cases h)
    have hwi : IntKind.i64.wrap ((i : Int) + 1) = ((i + 1 : Nat) : Int) := by rw [wrap_i64 (by omega)]; simp
    rw [hwi]
    have go : ∀ w6, Ch [] w2 w6 → insE a b c d is.length is[i] i = 0 → next (((i + 1 : Nat) : Int), ()) w6 := fun w6 hc6 h0 => by
      rw [h0, if_neg (by decide)] at hchk
      exact hnext _ _ ⟨i + 1, rfl, hlt, hc6, hchk⟩ (by simp; omega)
    clear hchk hnext
    generalize hx : is[i] = x at *
    have e31 : (x.1 < 0 ∨ x.1 ≥ 37) → insE a b c d is.length x i = 31 := fun h => by unfold insE; rw [if_pos h]
    refine ldI_b (o := 0) hb4 rfl (iteB_intro (fun hb => bad 31 w4 (e31 (by simp at hb; omega)) (by decide) hc4) (fun h0 => ?_))
    refine ldI_b (o := 0) hb4 rfl (iteB_intro (fun hb => bad 31 w4 (e31 (by simp at hb; omega)) (by decide) hc4) (fun h37 => ?_))
    have h0 : 0 ≤ x.1 := by simpa using h0
    have h37 : x.1 < 37 := by simpa using h37
    have eA : insE a b c d is.length x i = argE a b c d is.length x i := by
      unfold insE
      have hn : ¬ (x.1 < 0 ∨ x.1 ≥ 37) := by omega
      rw [if_neg hn]
    rw [eA] at bad go
    refine ldI_b (o := 0) hb4 rfl (is_ok fun w5 (hc5 : Ch [] w4 w5) => ?_)
    rw [isB_jz h0 h37]
    replace hb4 := hb4.ch0 hc5
    replace hc5 := hc4.tr hc5
    have hb15 := hb1.ch0 hc5
    refine iteB_intro (fun hj => ?_) (fun hj => ?_)
    · have hj : x.1 = 30 ∨ x.1 = 31 := by simpa using hj
      have hp : ¬ x.1 = 1 := by omega
      have eJ : argE a b c d is.length x i = if x.2 ≤ (i : Int) ∨ x.2 > (is.length : Int) then 33 else 0 := by unfold argE; rw [if_neg hp, if_pos hj]
      rw [eJ] at bad go
      have b33 : (x.2 ≤ (i : Int) ∨ x.2 > (is.length : Int)) → K ⟨none, 0, 0⟩ 33 w5 := fun h => bad 33 w5 (by rw [if_pos h]) (by decide) hc5
      refine ldI_b hb4 rfl (iteB_intro (fun hq => b33 (.inl (by simpa using hq))) (fun hq => ?_))
      refine ldI_b hb4 rfl (ldS_b (s := s) hb15 rfl (iteB_intro (fun hr => b33 (.inr (by simp at hr; omega))) (fun hr => ?_)))
      have hn : ¬ (x.2 ≤ (i : Int) ∨ x.2 > (is.length : Int)) := by simp at hq hr; omega
      refine ldPr (s := s) hb15 (ldI_b (o := 0) hb4 rfl (ldI_b hb4 rfl ?_))
      refine refArg_ok h0 h37 fun w6 hc6 => ?_
      rw [decide_eq_true (by omega)]
      exact iteB_neg rfl (go w6 (hc5.tr hc6) (by rw [if_neg hn]))
    · have hj : ¬ (x.1 = 30 ∨ x.1 = 31) := by simp at hj; omega
      refine ldPr (s := s) hb15 (ldI_b (o := 0) hb4 rfl (ldI_b hb4 rfl ?_))
      refine refArg_ok h0 h37 fun w6 hc6 => ?_
      replace hc6 := hc5.tr hc6
      by_cases hp : x.1 = 1
      · have e0 : argE a b c d is.length x i = 0 := by unfold argE; rw [if_pos hp]
        rw [decide_eq_true (by omega)]
        exact iteB_neg rfl (go w6 hc6 e0)
      · by_cases hr : 0 ≤ x.2 ∧ x.2 < mostA a b c d x.1
        · have e0 : argE a b c d is.length x i = 0 := by unfold argE; rw [if_neg hp, if_neg hj, if_pos hr]
          rw [decide_eq_true (by omega)]
          exact iteB_neg rfl (go w6 hc6 e0)
        · have e32 : argE a b c d is.length x i = 32 := by unfold argE; rw [if_neg hp, if_neg hj, if_neg hr]
          rw [decide_eq_false (by omega)]
          exact iteB_pos rfl (bad 32 w6 e32 (by decide) hc6)
  have hie : i = is.length := by simp [ls] at h; omega
  subst hie
  rw [List.drop_length] at hchk
  have hchk : chk a b c d is.length is 0 = 0 := hchk.symm
  rw [if_neg (by rw [hchk]; decide)] at hK
  have hways := chk_ways hchk (by omega)
  simp only [Nat.zero_add, Int.natCast_zero, Int.zero_add] at hways
  clear hnext h
  replace hb1 := hb1.ch0 hc3
  replace hc3 := hc2.tr hc3
  have hkl := hb1.below
  refine newB fun k4 w4 hc4 hb4 hk4 hs4 => ?_
  replace hb1 := hb1.ch0 hc4
  replace hc4 := hc3.tr hc4
  have hown : Own w4 3 1 ⟨some ⟨k4, 0, none⟩, 1, 1⟩ (Is .i64 [0]) := Own.new hb4 (by simp [maxLen])
  have hkz := hc3.size
  clear hc3 hs3 hc2 hs4 hb4
  refine loopP_inv (fun st w5 => ∃ i : Nat, st.2.1 = (i : Int) ∧ i ≤ is.length ∧ Ch [] w w5 ∧ Blk w5 k1 #[.int .i64 a, .int .i64 b, .int .i64 c, .int .i64 d, .slice s.a s.l s.c] 35 ∧ Own w5 3 1 st.1 (Is .i64 (d0 i)) ∧ Ge w3.heap.size (blkOf st.1) ∧ w3.heap.size ≤ w5.heap.size) (fun st _ => is.length - st.2.1.toNat)
    ⟨0, rfl, Nat.zero_le _, hc4, hb1, hown, fun k hk => by cases hk; simp only []; omega, by have := hown.ltS k4 rfl; omega⟩ ?_
  rintro ⟨sd, i0, u⟩ w5 next ⟨i, rfl, hi, hc5, hb15, ho5, hg5, hz5⟩ hnext
  dsimp only at ho5 hg5 ⊢
  refine ldS_b (s := s) hb15 rfl ?_
  have l5 : sd.l = i + 1 := by have := ho5.rd.len; simpa [d0] using this
  refine iteB_intro (fun h => ?_) (fun h => ?_)
  · have hlt : i < is.length := by simp [ls] at h; omega
    refine apB TI64 rfl (by simp [Value.oneCell']) ho5 (by omega) (by omega) fun s6 w6 ho6 hl6 hg6 => ?_
    rw [wrap_i64 (by omega)]
    refine hnext _ _ ⟨i + 1, by simp, hlt, hc5.trO hg6.ch.1 (fun k hk => by have := hg5 k hk; omega), hb15.ch hg6.ch.1 (fun hin => by have := hg5 k1 (show blkOf sd = some k1 from (show some k1 = blkOf sd from hin).symm); omega), ?_, ?_, by have := hg6.ch.1.size; omega⟩ (by simp; omega)
    · have e : d0 (i + 1) = d0 i ++ [-1] := by simp [d0, List.replicate_succ']
      rw [e]
      simpa [Is] using ho6
    · intro k hk
      rcases hg6.ch.2 k hk with h' | h'
      · exact hg5 k h'
      · omega
  have hie : i = is.length := by simp [ls] at h; omega
  subst hie
  obtain ⟨kd, rest, hx, hkd⟩ := RowX.of_own ho5 (by simp [d0])
  have hkd3 := hg5 kd hkd
  have hn1 : k1 ≠ kd := by omega
  clear hnext h hown hc4 hb1 ho5
  refine loopP_inv (fun st w7 => ∃ (i : Nat) (ds : List Int), st.1 = (i : Int) ∧ i ≤ is.length ∧ Ch [] w w7 ∧ Blk w7 k1 #[.int .i64 a, .int .i64 b, .int .i64 c, .int .i64 d, .slice s.a s.l s.c] 35 ∧ RowX w7 sd kd .i64 3 ds rest ∧ ds.length = is.length + 1 ∧ (∀ x ∈ ds, -1 ≤ x ∧ x ≤ 32) ∧ walkD is (is.length - i) ds i = walkD is is.length (d0 is.length) 0) (fun st _ => is.length - st.1.toNat)
    ⟨0, d0 is.length, rfl, Nat.zero_le _, hc5, hb15, hx, d0_len _, by simp [d0], rfl⟩ ?_
  clear hx hb15 hc5
  rintro ⟨i0, u⟩ w7 next ⟨i, ds, rfl, hi, hc7, hb17, hr7, hdl, hrng, hwalk⟩ hnext
  dsimp only
  refine ldS_b (s := s) hb17 rfl ?_
  refine iteB_intro (fun h => ?_) (fun h => ?_)
  · have hlt : i < is.length := by simp [ls] at h; omega
    have hdi : i < ds.length := by omega
    have hstep : walkD is (is.length - i) ds i = (stepD is ds i).bind fun d => walkD is (is.length - (i + 1)) d (i + 1) := by
      rw [show is.length - i = (is.length - (i + 1)) + 1 by omega]; rfl
    have hwi : IntKind.i64.wrap ((i : Int) + 1) = ((i + 1 : Nat) : Int) := by rw [wrap_i64 (by omega)]; simp
    rw [hwi]
    have bad : ∀ w', Ch [] w w' → stepD is ds i = none → K ⟨none, 0, 0⟩ 34 w' := fun w' hc' hn => by
      rw [hstep, hn] at hwalk
      rw [← show none = walkD is is.length (d0 is.length) 0 from hwalk] at hK
      exact hK _ w' (Rd.nil _ _) hc' (fun k h => by cases h)
    refine hr7.get (v := ds[i]) (by omega) (by simp) ?_
    have hx := hrng ds[i] (List.getElem_mem _)
    refine iteB_intro (fun hneg => ?_) (fun hneg => ?_)
    · rw [hstep, stepD_neg hlt hdi (by simpa using hneg)] at hwalk
      exact hnext _ _ ⟨i + 1, ds, rfl, hlt, hc7, hb17, hr7, hdl, hrng, hwalk⟩ (by simp; omega)
    have hneg : ¬ ds[i] < 0 := by simpa using hneg
    have hop := (hways i is[i] (by simp)).1
    have hto := (hways i is[i] (by simp)).2
    refine ldS_b (s := s) hb17 rfl ?_
    refine (hs.ch0 hc7).idx rfl hlt fun ad h1 h2 => ldI_of h1 ?_
    refine takes_ok hop.1 hop.2 fun w8 hc8 => ?_
    replace hr7 := hr7.ch0 hc8
    replace hb17 := hb17.ch0 hc8
    replace hc8 := hc7.tr hc8
    refine hr7.get (v := ds[i]) (by omega) (by simp) ?_
    have hmv := mv_rng is[i].1
    have hnb := stepD_bad hlt hdi hneg
    have hgo := stepD_go hlt hdi hneg
    rw [← putAll_nx] at hgo
    generalize mv is[i].1 = m at *
    rw [wrap_i64 (x := ds[i] - m.1) (by omega), wrap_i64 (by omega)]
    refine iteB_intro (fun hb => bad w8 hc8 (hnb (.inl (by simp at hb; omega)))) (fun hb => ?_)
    have hb : ¬ ds[i] < m.1 := by simp at hb; omega
    refine iteB_intro (fun hb' => bad w8 hc8 (hnb (.inr (by simpa using hb')))) (fun hb' => ?_)
    have hb' : ¬ ds[i] - m.1 + m.2 > 32 := by simpa using hb'
    have hgo := hgo (by omega)
    have hv : 0 ≤ ds[i] - m.1 + m.2 ∧ ds[i] - m.1 + m.2 ≤ 32 := by omega
    clear hnb hmv hneg hb hb'
    generalize ds[i] - m.1 + m.2 = v at *
    refine ldPr (s := s) hb17 ?_
    refine next_ok (hs.ch0 hc8) hlt (by omega) hop.1 hop.2 fun sw w9 hrw hc9 hgw => ?_
    have hkl9 := hr7.below
    have hgw' : ∀ k, blkOf sw = some k → k ≠ kd := fun k hk he => by have := hgw k hk; omega
    replace hr7 := hr7.ch0 hc9
    replace hb17 := hb17.ch0 hc9
    replace hc9 := hc8.tr hc9
    have hto' : ∀ t ∈ nx is[i] i, (i : Int) < t ∧ t ≤ is.length := fun t ht => hto t (nx_mem ht)
    have hwl : (nx is[i] i).length ≤ 2 := by
      rcases nx_wy is[i] i with h | ⟨_, _, _, h⟩
      · rw [h]; exact wy_len _ _
      · rw [h]; simp
    have lw := hrw.len
    simp only [Is_length] at lw
    clear hgw hc8 hto
    generalize nx is[i] i = ws at *
    refine loopP_inv (fun st w10 => ∃ (j : Nat) (es : List Int), st.1 = (j : Int) ∧ j ≤ ws.length ∧ Ch [] w w10 ∧ Ch [some kd] w9 w10 ∧ RowX w10 sd kd .i64 3 es rest ∧ es.length = is.length + 1 ∧ (∀ x ∈ es, -1 ≤ x ∧ x ≤ 32) ∧ putAll v (ws.drop j) es = putAll v ws ds) (fun st _ => ws.length - st.1.toNat)
      ⟨0, ds, rfl, Nat.zero_le _, hc9, Ch.refl _ _, hr7, hdl, hrng, rfl⟩ ?_
    rintro ⟨j0, u⟩ w10 next' ⟨j, es, rfl, hj, hc10, hck10, hr10, hel, hern, hput⟩ hnext'
    dsimp only
    refine iteB_intro (fun h => ?_) (fun h => ?_)
    · have hjlt : j < ws.length := by simp [lw] at h; omega
      have hrw10 : Rd w10 sw (Is .i64 ws) := hrw.ch hck10 fun k hk => nin1' (hgw' k hk)
      have hwj : ws[(Int.toNat (j : Int))]? = some ws[j] := by simp
      refine hrw10.get (by omega) hwj ?_
      have ht := hto' ws[j] (List.getElem_mem _)
      have htl : ws[j].toNat < es.length := by omega
      rw [List.drop_eq_getElem_cons hjlt, putAll_cons] at hput
      generalize ws[j] = t at *
      refine hr10.get (v := es[t.toNat]) (by omega) (by simp) ?_
      have put : ¬ (0 ≤ es[t.toNat] ∧ es[t.toNat] ≠ v) → idxP sw.a sw.l (j : Int) 1 fun a95 => ldI .i64 a95 w10 fun n96 => idxP sd.a sd.l n96 1 fun a97 => stP a97 (.int .i64 v) w10 fun w98 => next' ((IntKind.i64.wrap ((j : Int) + 1)), ()) w98 := fun hno => by
        rw [put1_yes htl hno] at hput
        refine hrw10.get (by omega) hwj ?_
        refine hr10.set (by omega) htl fun w11 hc11 hr11 hs11 => ?_
        rw [wrap_i64 (by omega)]
        exact hnext' _ _ ⟨j + 1, es.set t.toNat v, by simp, hjlt, hc10.trN hc11 (by omega), hck10.tr hc11, hr11, by simpa using hel, fun x hx => by
          rcases List.mem_or_eq_of_mem_set hx with h | h
          · exact hern x h
          · omega, hput⟩ (by simp; omega)
      refine iteB_intro (fun hp => ?_) (fun hp => put (by simp at hp; omega))
      refine hrw10.get (by omega) hwj ?_
      refine hr10.get (v := es[t.toNat]) (by omega) (by simp) ?_
      refine iteB_intro (fun hq => ?_) (fun hq => put (by simp at hq; omega))
      rw [put1_no htl ⟨by simpa using hp, by simpa using hq⟩] at hput
      exact bad w10 hc10 (by rw [hgo]; exact hput.symm)
    · have hje : j = ws.length := by simp [lw] at h; omega
      subst hje
      rw [List.drop_length] at hput
      rw [hstep, hgo, ← hput] at hwalk
      exact hnext _ _ ⟨i + 1, es, rfl, hlt, hc10, hb17.ch hck10 (nin1' hn1), hr10, hel, hern, hwalk⟩ (by simp; omega)
  have hie : i = is.length := by simp [ls] at h; omega
  subst hie
  rw [Nat.sub_self] at hwalk
  rw [← show some ds = walkD is is.length (d0 is.length) 0 from hwalk] at hK
  exact hK _ w7 hr7.rd hc7 (fun k hk => by rw [hkd] at hk; cases hk; omega)
theorem refVerify_ok {a b c d : Int} {s : Slc} {is : List (Int × Int)} {w : World} {K : Int → World → Prop} (hs : RdC w s is) (hl : is.length ≤ 8800000000000)
    (hK : ∀ w', Ch [] w w' → K (depths a b c d is).2 w') : c_preluderef03_Verify a b c d s w K := by
  refine sim_preluderef03_Verify ?_
  unfold sh_preluderef03_Verify
  refine newB fun k1 w1 hc1 hb1 hk1 hs1 => ?_
  refine ldPr (s := s) hb1 ?_
  exact refDepths_ok (hs.ch0 hc1) hl fun s' w' h hc _ => hK w' (hc1.tr hc)
end Go.Proofs.YthgkehldimldgaaDoor
