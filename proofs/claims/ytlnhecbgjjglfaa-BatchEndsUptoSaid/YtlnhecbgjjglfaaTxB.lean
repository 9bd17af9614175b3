/- TxB: lists of keys that are lent; what lies behind; whether two are the same; what was lent is written over. -/
import Derived.Test.YtlnhecbgjjglfaaTx
set_option linter.unusedVariables false
set_option linter.unusedSimpArgs false
namespace Go.Proofs.Ytlnhecbgjjglfaa
open Go Go.Sh Go.Pl Go.RowKit
theorem neq_key (x y : Operand) (a b c d : Int) (w : World) :
    (do eqGuard .neq 70 x y (.agg #[.int .i64 a, .int .i64 b]) (.agg #[.int .i64 c, .int .i64 d]); binOp .neq 70 (.agg #[.int .i64 a, .int .i64 b]) (.agg #[.int .i64 c, .int .i64 d])).run Try.prog w = .ok (.bool (!(a == c && b == d))) w := by
  have h1 : Try.prog.eqGuardType Try.prog.depth 70 = false := by kernel_rfl
  have h2 : Try.prog.underlying 70 = some (.struct (Try.prog.fieldsOf 70)) := by kernel_rfl
  have h3 : Try.prog.stoodInHeld 70 = false := by kernel_rfl
  have h4 : (Try.prog.fieldsOf 70).toList.map (fun f => (f.name != "_", f.type, f.offset)) = [(true, 3, 0), (true, 2, 1)] := by kernel_rfl
  have p0 : Try.prog.plainKey 3 = true := by kernel_rfl
  have p1 : Try.prog.plainKey 2 = true := by kernel_rfl
  have u0 : Try.prog.underlying 3 = some (.int .i64) := by kernel_rfl
  have u1 : Try.prog.underlying 2 = some (.int .i64) := by kernel_rfl
  rw [Sem.run_bind, run_eqGuard_agg _ _ _ _ _ _ _ h1, Result.andThen_ok, run_neq_struct, run_equalIn_agg w 9999 70 _ _ h2 h3]
  generalize (Try.prog.fieldsOf 70).toList = fs at h4
  obtain ⟨f0, f1, rfl⟩ : ∃ f0 f1, fs = [f0, f1] := by
    have hl := congrArg List.length h4
    simp at hl
    match fs, hl with
    | [x, y], _ => exact ⟨x, y, rfl⟩
  simp only [List.map_cons, List.map_nil, List.cons.injEq, Prod.mk.injEq, and_true] at h4
  obtain ⟨⟨n0, t0, o0⟩, n1, t1, o1⟩ := h4
  have m0 : f0.name ≠ "_" := by simpa using n0
  have m1 : f1.name ≠ "_" := by simpa using n1
  unfold Op.eqFields
  rw [if_pos m0, t0, o0]
  simp only [Sem.run_bind, run_part_plain (w := w) p0 (show (#[Value.int .i64 a, .int .i64 b] : Array Value)[0]? = some (.int .i64 a) from rfl), run_part_plain (w := w) p0 (show (#[Value.int .i64 c, .int .i64 d] : Array Value)[0]? = some (.int .i64 c) from rfl), Result.andThen_ok, run_equalIn_int w 9998 3 .i64 .i64 a c u0]
  by_cases hac : a = c
  · subst hac
    simp only [beq_self_eq_true, Bool.not_true, Bool.false_eq_true, if_false]
    unfold Op.eqFields
    rw [if_pos m1, t1, o1]
    simp only [Sem.run_bind, run_part_plain (w := w) p1 (show (#[Value.int .i64 a, .int .i64 b] : Array Value)[1]? = some (.int .i64 b) from rfl), run_part_plain (w := w) p1 (show (#[Value.int .i64 a, .int .i64 d] : Array Value)[1]? = some (.int .i64 d) from rfl), Result.andThen_ok, run_equalIn_int w 9998 2 .i64 .i64 b d u1]
    by_cases hbd : b = d
    · subst hbd; simp [Op.eqFields]
    · simp [hbd]
  · simp [hac]
set_option maxHeartbeats 1000000 in
theorem keyList_ok {l : Slc} {xs : List (Int × Int)} {w : World} {K : Slc → World → Prop} (hl : RdC w l xs) (hn : l.a = none → l.l = 0) (few : xs.length ≤ 1000000)
    (hK : ∀ s w', LR (fun k => w.heap.size ≤ k) w' 70 2 mk2 xs.length s (flat xs) → Ch [] w w' → K s w') : c_preludelaw06_keyList l w K := by
  refine sim_preludelaw06_keyList ?_
  unfold sh_preludelaw06_keyList
  have ll := hl.len
  refine iteB_intro (fun h => ?_) (fun h => ?_)
  · have h0 : l.a = none := by simpa using h
    have h1 := hn h0
    have : xs = [] := List.eq_nil_of_length_eq_zero (by omega)
    subst this
    exact hK _ w (.inl ⟨rfl, rfl, rfl⟩) (Ch.refl _ _)
  rw [wrap_i64 (by omega), show ((l.l : Int) + 3) = ((xs.length + 3 : Nat) : Int) by omega]
  refine mkP_intro TKy (by omega) (by omega) fun w1 (hc1 : Ch [] w w1) hb1 hs1 => ?_
  have msz : (madeCells (Value.agg #[.int .i64 0, .int .i64 0]).cells ((xs.length + 3) * 2)).size = (xs.length + 3) * 2 := by simp [madeCells]
  have hfl := flat_length xs
  refine cpP_intro TKy (x := l) (o := 0) (dl := xs.length + 3) (cs := flat xs) hb1 hn (by rw [hfl, ll]; congr 1; exact (Nat.min_eq_left (by omega)).symm) (fun ad ha => (hl.ch0 hc1).cells ad ha) (by rw [hfl, msz]; omega) (flat_one _) fun w2 hc2 hb2 hs2 => ?_
  replace hc2 := Ch.of1 hc2
  generalize hcur : ((madeCells (Value.agg #[.int .i64 0, .int .i64 0]).cells ((xs.length + 3) * 2)).toList.take 0 ++ flat xs ++ (madeCells (Value.agg #[.int .i64 0, .int .i64 0]).cells ((xs.length + 3) * 2)).toList.drop (0 + (flat xs).length)).toArray = cur at hb2
  have hsz : cur.size = (xs.length + 3) * 2 := by rw [← hcur]; simp [hfl, msz]; omega
  have hpre : ∀ j v, (flat xs)[j]? = some v → cur[j]? = some v := fun j v hv => by
    have hj := (List.getElem?_eq_some_iff.1 hv).1
    rw [← hcur, List.take_zero, List.nil_append, List.getElem?_toArray, List.getElem?_append_left hj]; exact hv
  clear hcur hb1
  refine loopP_inv (fun st w3 => ∃ (i : Nat) (cur : Array Value), st.1 = ((xs.length + i : Nat) : Int) ∧ i ≤ 3 ∧ Blk w3 w.heap.size cur 70 ∧ cur.size = (xs.length + 3) * 2 ∧ (∀ j v, (flat xs)[j]? = some v → cur[j]? = some v) ∧ (∀ i', i' < i → cur[(xs.length + i') * 2]? = some (.int .i64 (-31)) ∧ cur[(xs.length + i') * 2 + 1]? = some (.int .i64 0)) ∧ Ch [] w w3) (fun st _ => xs.length + 3 - st.1.toNat)
    ⟨0, cur, by omega, by omega, hb2, hsz, hpre, fun i' h => by omega, hc1.trN hc2 (Nat.le_refl _)⟩ ?_
  rintro ⟨i0, u⟩ w3 next ⟨i, cur, rfl, hi, hb3, hsz, hpre, hmk, hc3⟩ hnext
  dsimp only
  refine iteB_dec (fun h => ?_) (fun h => ?_)
  · refine idxP_intro (by omega) (by omega) rfl ?_
    rw [Int.toNat_natCast]
    refine stB hb3 (by omega) fun w4 hc4 hb4 hs4 => ?_
    rw [Deep.add_add]
    refine stB hb4 (by simp; omega) fun w5 hc5 hb5 hs5 => ?_
    rw [wrap_i64 (by omega)]
    refine hnext _ _ ⟨i + 1, _, by omega, by omega, hb5, by simpa using hsz, fun j v hv => ?_, fun i' hi' => ?_, (hc3.trN hc4 (Nat.le_refl _)).trN hc5 (Nat.le_refl _)⟩ (by simp only []; omega)
    · have hj := (List.getElem?_eq_some_iff.1 hv).1
      rw [Array.getElem?_setIfInBounds_ne (by omega), Array.getElem?_setIfInBounds_ne (by omega)]; exact hpre j v hv
    · rcases Nat.lt_or_ge i' i with h1 | h1
      · rw [Array.getElem?_setIfInBounds_ne (by omega), Array.getElem?_setIfInBounds_ne (by omega), Array.getElem?_setIfInBounds_ne (by omega), Array.getElem?_setIfInBounds_ne (by omega)]; exact hmk i' h1
      · have : i' = i := by omega
        subst this
        rw [Array.getElem?_setIfInBounds_ne (by omega), Array.getElem?_setIfInBounds_self_of_lt (by omega), Array.getElem?_setIfInBounds_self_of_lt (by simp; omega)]
        exact ⟨rfl, rfl⟩
  · have hi3 : i = 3 := by omega
    subst hi3
    refine slP_front' (n := xs.length) (by omega) (by omega) ?_
    refine hK _ w3 (.inr ⟨_, cur, Nat.le_refl _, rfl, hb3, hsz, hpre, fun i hi j v hv => ?_⟩) hc3
    unfold mk2 at hv
    match j, hv with
    | 0, hv =>
      have : v = .int .i64 (-31) := by simpa using hv.symm
      subst this
      exact (hmk i hi).1
    | 1, hv =>
      have : v = .int .i64 0 := by simpa using hv.symm
      subst this
      exact (hmk i hi).2
    | j + 2, hv => simp at hv
theorem sameInts_ok {a b : Slc} {xs ys : List Int} {w : World} {K : Bool → World → Prop} (ha : Rd w a (Is .i64 xs)) (hb : Rd w b (Is .i64 ys)) (hl : xs.length ≤ 9000000000000000000)
    (hK : ∀ w', Ch [] w w' → K (decide (xs = ys)) w') : c_preludelaw06_sameInts a b w K := by
  refine sim_preludelaw06_sameInts ?_
  unfold sh_preludelaw06_sameInts
  exact sameF ha hb hl hK
theorem sameKeys_ok {a b : Slc} {xs : List (Int × Int)} {w : World} {K : Bool → World → Prop} (ha : RdC w a xs) (hb : RdC w b xs) (hl : xs.length ≤ 9000000000000000000)
    (hK : ∀ w', Ch [] w w' → K true w') : c_preludelaw06_sameKeys a b w K := by
  refine sim_preludelaw06_sameKeys ?_
  unfold sh_preludelaw06_sameKeys
  have la := ha.len
  have lb := hb.len
  refine iteB_ne (fun h => absurd (by omega) h) (fun _ => ?_)
  refine loopP_inv (fun st w1 => ∃ i : Nat, st.1 = (i : Int) ∧ i ≤ xs.length ∧ Ch [] w w1) (fun st _ => xs.length - st.1.toNat) ⟨0, rfl, Nat.zero_le _, Ch.refl _ _⟩ ?_
  rintro ⟨i0, u⟩ w1 next ⟨i, rfl, hi, hc⟩ hnext
  dsimp only
  refine iteB_dec (fun h => ?_) (fun h => hK w1 hc)
  have hlt : i < xs.length := by omega
  have hcd := hc.tr (Ch.drew w1)
  refine (ha.ch0 hcd).idx rfl hlt fun ad h1 h2 => ldI_of h1 (ldI_of h2 ?_)
  refine (hb.ch0 hcd).idx rfl hlt fun ad h1 h2 => ldI_of h1 (ldI_of h2 ?_)
  refine ⟨false, w1.drew, ?_, iteB_neg rfl ?_⟩
  · rw [neq_key]; simp
  rw [wrap_i64 (by omega)]
  exact hnext _ _ ⟨i + 1, by simp, hlt, hcd⟩ (by simp; omega)
set_option maxHeartbeats 1000000 in
theorem sameBatch_ok {a b : Slc} {xs : List Txm} {w : World} {K : Bool → World → Prop} (ha : RdB w a xs) (hb : RdB w b xs) (hl : xs.length ≤ 1000000) (few : ∀ x ∈ xs, x.args.length ≤ 1000000 ∧ x.reads.length ≤ 1000000 ∧ x.writes.length ≤ 1000000)
    (hK : ∀ w', Ch [] w w' → K true w') : c_preludelaw06_sameBatch a b w K := by
  refine sim_preludelaw06_sameBatch ?_
  unfold sh_preludelaw06_sameBatch
  have la := ha.len
  have lb := hb.len
  refine iteB_ne (fun h => absurd (by omega) h) (fun _ => ?_)
  refine loopP_inv (fun st w1 => ∃ i : Nat, st.1 = (i : Int) ∧ i ≤ xs.length ∧ Ch [] w w1) (fun st _ => xs.length - st.1.toNat) ⟨0, rfl, Nat.zero_le _, Ch.refl _ _⟩ ?_
  rintro ⟨i0, u⟩ w1 next ⟨i, rfl, hi, hc⟩ hnext
  dsimp only
  refine iteB_dec (fun h => ?_) (fun h => hK w1 hc)
  have hlt : i < xs.length := by omega
  obtain ⟨f1, f2, f3⟩ := few xs[i] (List.getElem_mem hlt)
  obtain ⟨ad, ag, rs, ws, hA, ia⟩ := (ha.ch0 hc).at' hlt
  refine ia _ _ rfl (ldTx hA ?_)
  refine newTx fun k1 w2 hc2 hb2 hk2 hs2 => ?_
  replace hA := hA.ch0 hc2
  replace hc2 := hc.tr hc2
  obtain ⟨bd, bg, br, bw, hB, ib⟩ := (hb.ch0 hc2).at' hlt
  refine ib _ _ rfl (ldTx hB ?_)
  refine newTx fun k3 w3 hc3 hb3 hk3 hs3 => ?_
  replace hA := hA.ch0 hc3
  replace hB := hB.ch0 hc3
  replace hb2 := hb2.ch0 hc3
  replace hc3 := hc2.tr hc3
  refine ldI_b (o := 0) hb2 rfl (ldI_b (o := 0) hb3 rfl (iteB_ne (fun h => absurd rfl h) fun _ => ?_))
  refine ldS_b (s := ag) hb2 rfl (ldS_b (s := bg) hb3 rfl ?_)
  refine sameInts_ok hA.fa hB.fa (by omega) fun w4 hc4 => iteB_neg (by simp) ?_
  refine ldS_b (s := rs) (hb2.ch0 hc4) rfl (ldS_b (s := br) (hb3.ch0 hc4) rfl ?_)
  refine sameKeys_ok (hA.fr.ch0 hc4) (hB.fr.ch0 hc4) (by omega) fun w5 hc5 => iteB_neg rfl ?_
  replace hc5 := hc4.tr hc5
  refine ldS_b (s := ws) (hb2.ch0 hc5) rfl (ldS_b (s := bw) (hb3.ch0 hc5) rfl ?_)
  refine sameKeys_ok (hA.fw.ch0 hc5) (hB.fw.ch0 hc5) (by omega) fun w6 hc6 => iteB_neg rfl ?_
  rw [wrap_i64 (by omega)]
  exact hnext _ _ ⟨i + 1, by simp, hlt, (hc3.tr hc5).tr hc6⟩ (by simp; omega)
theorem tail_ok {P : Nat → Prop} {s : Slc} {n : Nat} {vs : List Value} {w : World} {K : Bool → World → Prop} (h : LR P w 70 2 mk2 n s vs) (hn : n ≤ 1000000) (hK : K true w) : c_preludelaw06_tail s w K := by
  refine sim_preludelaw06_tail ?_
  unfold sh_preludelaw06_tail
  rcases h with ⟨rfl, h1, h2⟩ | ⟨k, cur, h1, rfl, h3, h4, h5, h6⟩
  · exact iteB_pos rfl hK
  refine iteB_neg rfl ?_
  dsimp only
  refine slP_front' (n := n + 3) (by rw [wrap_i64 (by omega)]; omega) (by omega) ?_
  refine loopP_inv (fun st w1 => w1 = w ∧ ∃ i : Nat, st.1 = ((n + i : Nat) : Int) ∧ i ≤ 3) (fun st _ => n + 3 - st.1.toNat) ⟨rfl, 0, by omega, by omega⟩ ?_
  rintro ⟨i0, u⟩ w1 next ⟨rfl, i, rfl, hi⟩ hnext
  dsimp only
  refine iteB_dec (fun h => ?_) (fun _ => hK)
  refine idxP_intro (by omega) (by omega) rfl ?_
  rw [Int.toNat_natCast]
  have e0 := h6 i (by omega) 0 _ rfl
  have e1 := h6 i (by omega) 1 _ rfl
  refine ldI_b h3 e0 ?_
  rw [Deep.add_add]
  refine ldI_b h3 e1 ⟨false, w1, ?_, iteB_neg rfl ?_⟩
  · rw [neq_key]; rfl
  rw [wrap_i64 (by omega)]
  exact hnext _ _ ⟨rfl, i + 1, by omega, by omega⟩ (by simp only []; omega)
/-- A list that is written over. -/
theorem LR.weak {P : Nat → Prop} {w : World} {t : TypeId} {sz : Nat} {mk : List Value} {n : Nat} {s : Slc} {vs : List Value} (h : LR P w t sz mk n s vs) : s.l = n ∧ (n = 0 ∨ ∃ (k : Nat) (cur : Array Value), P k ∧ k < w.heap.size ∧ s.a = some ⟨k, 0, none⟩ ∧ Blk w k cur t ∧ n * sz ≤ cur.size) := by
  rcases h with ⟨rfl, h1, h2⟩ | ⟨k, cur, h1, rfl, h3, h4, _⟩
  · exact ⟨h1.symm, .inl h1⟩
  · exact ⟨rfl, .inr ⟨k, cur, h1, h3.lt, rfl, h3, by rw [h4]; exact Nat.mul_le_mul_right _ (by omega)⟩⟩
set_option maxHeartbeats 1000000 in
theorem wipe_ok {P : Nat → Nat → Prop} {p : Int} {ag rs ws : Slc} {n1 n2 n3 : Nat} {v1 v2 v3 : List Value} {w : World} {K : World → Prop} (ha : LR (P 0) w 2 1 mk1 n1 ag v1) (hr : LR (P 1) w 70 2 mk2 n2 rs v2) (hw : LR (P 2) w 70 2 mk2 n3 ws v3)
    (h12 : ∀ k, P 0 k → ¬ P 1 k) (h13 : ∀ k, P 0 k → ¬ P 2 k) (h23 : ∀ k, P 1 k → ¬ P 2 k) (m1 : n1 ≤ 1000000) (m2 : n2 ≤ 1000000) (m3 : n3 ≤ 1000000)
    (hK : ∀ w', Chg (fun k => (∃ c, c < 3 ∧ P c k) ∧ k < w.heap.size) w w' → K w') : c_preludelaw06_wipe p ag rs ws w K := by
  refine sim_preludelaw06_wipe ?_
  unfold sh_preludelaw06_wipe
  replace ha := ha.mono (Q := fun k => P 0 k ∧ k < w.heap.size) fun k h1 h2 => ⟨h2, h1⟩
  replace hr := hr.mono (Q := fun k => P 1 k ∧ k < w.heap.size) fun k h1 h2 => ⟨h2, h1⟩
  replace hw := hw.mono (Q := fun k => P 2 k ∧ k < w.heap.size) fun k h1 h2 => ⟨h2, h1⟩
  refine newB fun k1 w1 hc1 hb1 hk1 hs1 => ?_
  replace ha := ha.ch0 hc1
  replace hr := hr.ch0 hc1
  replace hw := hw.ch0 hc1
  obtain ⟨l1, wa⟩ := LR.weak ha
  obtain ⟨l2, wr⟩ := LR.weak hr
  obtain ⟨l3, ww⟩ := LR.weak hw
  let S : Nat → Prop := fun k => (∃ c, c < 3 ∧ P c k) ∧ k < w.heap.size
  have hc1' : Chg S w w1 := (show Chg Nil w w1 from hc1).mono fun _ _ h => h.elim
  refine loopP_inv (fun st w2 => ∃ i : Nat, st.1 = (i : Int) ∧ i ≤ n1 ∧ Chg S w w2 ∧ Blk w2 k1 _ _ ∧ (n1 = 0 ∨ ∃ (k : Nat) (cur : Array Value), (P 0 k ∧ k < w.heap.size) ∧ k < w2.heap.size ∧ ag.a = some ⟨k, 0, none⟩ ∧ Blk w2 k cur 2 ∧ n1 * 1 ≤ cur.size) ∧ (n2 = 0 ∨ ∃ (k : Nat) (cur : Array Value), (P 1 k ∧ k < w.heap.size) ∧ k < w2.heap.size ∧ rs.a = some ⟨k, 0, none⟩ ∧ Blk w2 k cur 70 ∧ n2 * 2 ≤ cur.size) ∧ (n3 = 0 ∨ ∃ (k : Nat) (cur : Array Value), (P 2 k ∧ k < w.heap.size) ∧ k < w2.heap.size ∧ ws.a = some ⟨k, 0, none⟩ ∧ Blk w2 k cur 70 ∧ n3 * 2 ≤ cur.size)) (fun st _ => n1 - st.1.toNat)
    ⟨0, rfl, Nat.zero_le _, hc1', hb1, wa, wr, ww⟩ ?_
  clear wa wr ww hc1' ha hr hw hb1 hc1 hs1
  rintro ⟨i0, u⟩ w2 next ⟨i, rfl, hi, hc2, hb2, wa, wr, ww⟩ hnext
  dsimp only
  refine ldS_b (s := ag) hb2 rfl (iteB_dec (fun h => ?_) (fun h => ?_))
  · refine ldS_b (s := ag) hb2 rfl ?_
    rcases wa with h0 | ⟨k, cur, ⟨p1, p2⟩, p3, p4, p5, p6⟩
    · omega
    refine idxP_intro (by omega) (by omega) p4 ?_
    rw [Int.toNat_natCast, Nat.mul_one]
    refine stB p5 (by omega) fun w3 hc3 hb3 hs3 => ?_
    rw [wrap_i64 (by omega)]
    have hc3' : Chg S w2 w3 := Chg.mono hc3 fun j _ hj => by
      have : some j = some k := hj
      cases this
      exact ⟨⟨0, by omega, p1⟩, p2⟩
    refine hnext _ _ ⟨i + 1, by simp, by omega, hc2.step hc3' fun _ _ h => h, hb2.ch hc3 (nin1' (by omega)), .inr ⟨k, _, ⟨p1, p2⟩, by omega, p4, hb3, by simpa using p6⟩, ?_, ?_⟩ (by simp; omega)
    · rcases wr with h0 | ⟨q, cur', ⟨q1, q2⟩, q3, q4, q5, q6⟩
      · exact .inl h0
      · exact .inr ⟨q, cur', ⟨q1, q2⟩, by omega, q4, q5.ch hc3 (nin1' fun he => h12 k p1 (he ▸ q1)), q6⟩
    · rcases ww with h0 | ⟨q, cur', ⟨q1, q2⟩, q3, q4, q5, q6⟩
      · exact .inl h0
      · exact .inr ⟨q, cur', ⟨q1, q2⟩, by omega, q4, q5.ch hc3 (nin1' fun he => h13 k p1 (he ▸ q1)), q6⟩
  clear hnext wa
  refine loopP_inv (fun st w2 => ∃ i : Nat, st.1 = (i : Int) ∧ i ≤ n2 ∧ Chg S w w2 ∧ Blk w2 k1 _ _ ∧ (n2 = 0 ∨ ∃ (k : Nat) (cur : Array Value), (P 1 k ∧ k < w.heap.size) ∧ k < w2.heap.size ∧ rs.a = some ⟨k, 0, none⟩ ∧ Blk w2 k cur 70 ∧ n2 * 2 ≤ cur.size) ∧ (n3 = 0 ∨ ∃ (k : Nat) (cur : Array Value), (P 2 k ∧ k < w.heap.size) ∧ k < w2.heap.size ∧ ws.a = some ⟨k, 0, none⟩ ∧ Blk w2 k cur 70 ∧ n3 * 2 ≤ cur.size)) (fun st _ => n2 - st.1.toNat)
    ⟨0, rfl, Nat.zero_le _, hc2, hb2, wr, ww⟩ ?_
  clear wr ww hb2 hc2
  rintro ⟨i0, u⟩ w2 next ⟨i, rfl, hi, hc2, hb2, wr, ww⟩ hnext
  dsimp only
  refine ldS_b (s := rs) hb2 rfl (iteB_dec (fun h => ?_) (fun h => ?_))
  · refine ldS_b (s := rs) hb2 rfl ?_
    rcases wr with h0 | ⟨k, cur, ⟨p1, p2⟩, p3, p4, p5, p6⟩
    · omega
    refine idxP_intro (by omega) (by omega) p4 ?_
    rw [Int.toNat_natCast]
    refine stB p5 (by omega) fun w3 hc3 hb3 hs3 => ?_
    rw [Deep.add_add]
    refine stB hb3 (by simp; omega) fun w4 hc4 hb4 hs4 => ?_
    replace hc4 := hc3.tr hc4
    rw [wrap_i64 (by omega)]
    have hc4' : Chg S w2 w4 := Chg.mono hc4 fun j _ hj => by
      have : some j = some k := hj
      cases this
      exact ⟨⟨1, by omega, p1⟩, p2⟩
    refine hnext _ _ ⟨i + 1, by simp, by omega, hc2.step hc4' fun _ _ h => h, hb2.ch hc4 (nin1' (by omega)), .inr ⟨k, _, ⟨p1, p2⟩, by omega, p4, hb4, by simpa using p6⟩, ?_⟩ (by simp; omega)
    rcases ww with h0 | ⟨q, cur', ⟨q1, q2⟩, q3, q4, q5, q6⟩
    · exact .inl h0
    · exact .inr ⟨q, cur', ⟨q1, q2⟩, by omega, q4, q5.ch hc4 (nin1' fun he => h23 k p1 (he ▸ q1)), q6⟩
  clear hnext wr
  refine loopP_inv (fun st w2 => ∃ i : Nat, st.1 = (i : Int) ∧ i ≤ n3 ∧ Chg S w w2 ∧ Blk w2 k1 _ _ ∧ (n3 = 0 ∨ ∃ (k : Nat) (cur : Array Value), (P 2 k ∧ k < w.heap.size) ∧ k < w2.heap.size ∧ ws.a = some ⟨k, 0, none⟩ ∧ Blk w2 k cur 70 ∧ n3 * 2 ≤ cur.size)) (fun st _ => n3 - st.1.toNat)
    ⟨0, rfl, Nat.zero_le _, hc2, hb2, ww⟩ ?_
  clear ww hb2 hc2
  rintro ⟨i0, u⟩ w2 next ⟨i, rfl, hi, hc2, hb2, ww⟩ hnext
  dsimp only
  refine ldS_b (s := ws) hb2 rfl (iteB_dec (fun h => ?_) (fun h => hK w2 hc2))
  refine ldS_b (s := ws) hb2 rfl ?_
  rcases ww with h0 | ⟨k, cur, ⟨p1, p2⟩, p3, p4, p5, p6⟩
  · omega
  refine idxP_intro (by omega) (by omega) p4 ?_
  rw [Int.toNat_natCast]
  refine stB p5 (by omega) fun w3 hc3 hb3 hs3 => ?_
  rw [Deep.add_add]
  refine stB hb3 (by simp; omega) fun w4 hc4 hb4 hs4 => ?_
  replace hc4 := hc3.tr hc4
  rw [wrap_i64 (by omega)]
  have hc4' : Chg S w2 w4 := Chg.mono hc4 fun j _ hj => by
    have : some j = some k := hj
    cases this
    exact ⟨⟨2, by omega, p1⟩, p2⟩
  exact hnext _ _ ⟨i + 1, by simp, by omega, hc2.step hc4' fun _ _ h => h, hb2.ch hc4 (nin1' (by omega)), .inr ⟨k, _, ⟨p1, p2⟩, by omega, p4, hb4, by simpa using p6⟩⟩ (by simp; omega)
end Go.Proofs.Ytlnhecbgjjglfaa
