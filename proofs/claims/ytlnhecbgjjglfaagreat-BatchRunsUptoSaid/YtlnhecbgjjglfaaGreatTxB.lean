/- TxB: lists of keys that are lent; what lies behind; whether two are the same; what was lent is written over. -/
import Derived.Test.YtlnhecbgjjglfaaGreatTx
set_option linter.unusedVariables false
set_option linter.unusedSimpArgs false
namespace Go.Proofs.YtlnhecbgjjglfaaGreat
open Go Go.Sh Go.Pl Go.RowKit
theorem neq_key (x y : Operand) (a b c d : Int) (w : World) :
    (do eqGuard .neq 87 x y (.agg #[.int .i64 a, .int .i64 b]) (.agg #[.int .i64 c, .int .i64 d]); binOp .neq 87 (.agg #[.int .i64 a, .int .i64 b]) (.agg #[.int .i64 c, .int .i64 d])).run Tryz.prog w = .ok (.bool (!(a == c && b == d))) w := by
  have h1 : Tryz.prog.eqGuardType Tryz.prog.depth 87 = false := by kernel_rfl
  have h2 : Tryz.prog.underlying 87 = some (.struct (Tryz.prog.fieldsOf 87)) := by kernel_rfl
  have h3 : Tryz.prog.stoodInHeld 87 = false := by kernel_rfl
  have h4 : (Tryz.prog.fieldsOf 87).toList.map (fun f => (f.name != "_", f.type, f.offset)) = [(true, 3, 0), (true, 2, 1)] := by kernel_rfl
  have p0 : Tryz.prog.plainKey 3 = true := by kernel_rfl
  have p1 : Tryz.prog.plainKey 2 = true := by kernel_rfl
  have u0 : Tryz.prog.underlying 3 = some (.int .i64) := by kernel_rfl
  have u1 : Tryz.prog.underlying 2 = some (.int .i64) := by kernel_rfl
  rw [Sem.run_bind, run_eqGuard_agg _ _ _ _ _ _ _ h1, Result.andThen_ok, run_neq_struct, run_equalIn_agg w 9999 87 _ _ h2 h3]
  generalize (Tryz.prog.fieldsOf 87).toList = fs at h4
  obtain ⟨f0, f1, rfl⟩ : ∃ f0 f1, fs = [f0, f1] := by
    have hl := congrArg List.length h4
    simp at hl
    match fs, hl with
    | [x, y], _ => exact ⟨x, y, rfl⟩
  simp only [List.map_cons, List.map_nil, List.cons.injEq, Prod.mk.injEq, and_true] at h4
  obtain ⟨⟨n0, t0, o0⟩, n1, t1, o1⟩ := h4
  have m0 : f0.name ≠ "_" := by simpa using n0
  have m1 : f1.name ≠ "_" := by simpa using n1
  unfold Op.eqFields
  rw [if_pos m0, t0, o0]
  simp only [Sem.run_bind, run_part_plain (w := w) p0 (show (#[Value.int .i64 a, .int .i64 b] : Array Value)[0]? = some (.int .i64 a) from rfl), run_part_plain (w := w) p0 (show (#[Value.int .i64 c, .int .i64 d] : Array Value)[0]? = some (.int .i64 c) from rfl), Result.andThen_ok, run_equalIn_int w 9998 3 .i64 .i64 a c u0]
  by_cases hac : a = c
  · subst hac
    simp only [beq_self_eq_true, Bool.not_true, Bool.false_eq_true, if_false]
    unfold Op.eqFields
    rw [if_pos m1, t1, o1]
    simp only [Sem.run_bind, run_part_plain (w := w) p1 (show (#[Value.int .i64 a, .int .i64 b] : Array Value)[1]? = some (.int .i64 b) from rfl), run_part_plain (w := w) p1 (show (#[Value.int .i64 a, .int .i64 d] : Array Value)[1]? = some (.int .i64 d) from rfl), Result.andThen_ok, run_equalIn_int w 9998 2 .i64 .i64 b d u1]
    by_cases hbd : b = d
    · subst hbd; simp [Op.eqFields]
    · simp [hbd]
  · simp [hac]
set_option maxHeartbeats 1000000 in
theorem keyList_ok {l : Slc} {xs : List (Int × Int)} {w : World} {K : Slc → World → Prop} (hl : RdC w l xs) (hn : l.a = none → l.l = 0) (few : xs.length ≤ 1000000)
    (hK : ∀ s w', LR (fun k => w.heap.size ≤ k) w' 87 2 mk2 xs.length s (flat xs) → Ch [] w w' → K s w') : c_preludelaw06_keyList l w K := by
  refine sim_preludelaw06_keyList ?_
  unfold sh_preludelaw06_keyList
  have ll := hl.len
  refine iteB_intro (fun h => ?_) (fun h => ?_)
  · have h0 : l.a = none := by simpa using h
    have h1 := hn h0
    have : xs = [] := List.eq_nil_of_length_eq_zero (by omega)
    subst this
    exact hK _ w (.inl ⟨rfl, rfl, rfl⟩) (Ch.refl _ _)
  rw [wrap_i64 (by omega), show ((l.l : Int) + 3) = ((xs.length + 3 : Nat) : Int) by omega]
  refine mkP_intro TKy (by omega) (by omega) fun w1 (hc1 : Ch [] w w1) hb1 hs1 => ?_
  have msz : (madeCells (Value.agg #[.int .i64 0, .int .i64 0]).cells ((xs.length + 3) * 2)).size = (xs.length + 3) * 2 := by simp [madeCells]
  have hfl := flat_length xs
  refine cpP_intro TKy (x := l) (o := 0) (dl := xs.length + 3) (cs := flat xs) hb1 hn (by rw [hfl, ll]; congr 1; exact (Nat.min_eq_left (by omega)).symm) (fun ad ha => (hl.ch0 hc1).cells ad ha) (by rw [hfl, msz]; omega) (flat_one _) fun w2 hc2 hb2 hs2 => ?_
  replace hc2 := Ch.of1 hc2
  generalize hcur : ((madeCells (Value.agg #[.int .i64 0, .int .i64 0]).cells ((xs.length + 3) * 2)).toList.take 0 ++ flat xs ++ (madeCells (Value.agg #[.int .i64 0, .int .i64 0]).cells ((xs.length + 3) * 2)).toList.drop (0 + (flat xs).length)).toArray = cur at hb2
  have hsz : cur.size = (xs.length + 3) * 2 := by rw [← hcur]; simp [hfl, msz]; omega
  have hpre : ∀ j v, (flat xs)[j]? = some v → cur[j]? = some v := fun j v hv => by
    have hj := (List.getElem?_eq_some_iff.1 hv).1
    rw [← hcur, List.take_zero, List.nil_append, List.getElem?_toArray, List.getElem?_append_left hj]; exact hv
  clear hcur hb1
  refine loopP_inv (fun st w3 => ∃ (i : Nat) (cur : Array Value), st.1 = ((xs.length + i : Nat) : Int) ∧ i ≤ 3 ∧ Blk w3 w.heap.size cur 87 ∧ cur.size = (xs.length + 3) * 2 ∧ (∀ j v, (flat xs)[j]? = some v → cur[j]? = some v) ∧ (∀ i', i' < i → cur[(xs.length + i') * 2]? = some (.int .i64 (-31)) ∧ cur[(xs.length + i') * 2 + 1]? = some (.int .i64 0)) ∧ Ch [] w w3) (fun st _ => xs.length + 3 - st.1.toNat)
    ⟨0, cur, by omega, by omega, hb2, hsz, hpre, fun i' h => by omega, hc1.trN hc2 (Nat.le_refl _)⟩ ?_
  rintro ⟨i0, u⟩ w3 next ⟨i, cur, rfl, hi, hb3, hsz, hpre, hmk, hc3⟩ hnext
  dsimp only
  refine iteB_dec (fun h => ?_) (fun h => ?_)
  · refine idxP_intro (by omega) (by omega) rfl ?_
    rw [Int.toNat_natCast]
    refine stB hb3 (by omega) fun w4 hc4 hb4 hs4 => ?_
    rw [Deep.add_add]
    refine stB hb4 (by simp; omega) fun w5 hc5 hb5 hs5 => ?_
    rw [wrap_i64 (by omega)]
    refine hnext _ _ ⟨i + 1, _, by omega, by omega, hb5, by simpa using hsz, fun j v hv => ?_, fun i' hi' => ?_, (hc3.trN hc4 (Nat.le_refl _)).trN hc5 (Nat.le_refl _)⟩ (by simp only []; omega)
    · have hj := (List.getElem?_eq_some_iff.1 hv).1
      rw [Array.getElem?_setIfInBounds_ne (by omega), Array.getElem?_setIfInBounds_ne (by omega)]; exact hpre j v hv
    · rcases Nat.lt_or_ge i' i with h1 | h1
      · rw [Array.getElem?_setIfInBounds_ne (by omega), Array.getElem?_setIfInBounds_ne (by omega), Array.getElem?_setIfInBounds_ne (by omega), Array.getElem?_setIfInBounds_ne (by omega)]; exact hmk i' h1
      · have : i' = i := by omega
        subst this
        rw [Array.getElem?_setIfInBounds_ne (by omega), Array.getElem?_setIfInBounds_self_of_lt (by omega), Array.getElem?_setIfInBounds_self_of_lt (by simp; omega)]
        exact ⟨rfl, rfl⟩
  · have hi3 : i = 3 := by omega
    subst hi3
    refine slP_front' (n := xs.length) (by omega) (by omega) ?_
    refine hK _ w3 (.inr ⟨_, cur, Nat.le_refl _, rfl, hb3, hsz, hpre, fun i hi j v hv => ?_⟩) hc3
    unfold mk2 at hv
    match j, hv with
    | 0, hv =>
      have : v = .int .i64 (-31) := by simpa using hv.symm
      subst this
      exact (hmk i hi).1
    | 1, hv =>
      have : v = .int .i64 0 := by simpa using hv.symm
      subst this
      exact (hmk i hi).2
    | j + 2, hv => simp at hv
theorem sameInts_ok {a b : Slc} {xs ys : List Int} {w : World} {K : Bool → World → Prop} (ha : Rd w a (Is .i64 xs)) (hb : Rd w b (Is .i64 ys)) (hl : xs.length ≤ 9000000000000000000)
    (hK : ∀ w', Ch [] w w' → K (decide (xs = ys)) w') : c_preludelaw06_sameInts a b w K := by
  refine sim_preludelaw06_sameInts ?_
  unfold sh_preludelaw06_sameInts
  exact sameF ha hb hl hK
theorem sameKeys_ok {a b : Slc} {xs : List (Int × Int)} {w : World} {K : Bool → World → Prop} (ha : RdC w a xs) (hb : RdC w b xs) (hl : xs.length ≤ 9000000000000000000)
    (hK : ∀ w', Ch [] w w' → K true w') : c_preludelaw06_sameKeys a b w K := by
  refine sim_preludelaw06_sameKeys ?_
  unfold sh_preludelaw06_sameKeys
  have la := ha.len
  have lb := hb.len
  refine iteB_ne (fun h => absurd (by omega) h) (fun _ => ?_)
  refine loopP_inv (fun st w1 => ∃ i : Nat, st.1 = (i : Int) ∧ i ≤ xs.length ∧ Ch [] w w1) (fun st _ => xs.length - st.1.toNat) ⟨0, rfl, Nat.zero_le _, Ch.refl _ _⟩ ?_
  rintro ⟨i0, u⟩ w1 next ⟨i, rfl, hi, hc⟩ hnext
  dsimp only
  refine iteB_dec (fun h => ?_) (fun h => hK w1 hc)
  have hlt : i < xs.length := by omega
  have hcd := hc.tr (Ch.drew w1)
  refine (ha.ch0 hcd).idx rfl hlt fun ad h1 h2 => ldI_of h1 (ldI_of h2 ?_)
  refine (hb.ch0 hcd).idx rfl hlt fun ad h1 h2 => ldI_of h1 (ldI_of h2 ?_)
  refine ⟨false, w1.drew, ?_, iteB_neg rfl ?_⟩
  · rw [neq_key]; simp
  rw [wrap_i64 (by omega)]
  exact hnext _ _ ⟨i + 1, by simp, hlt, hcd⟩ (by simp; omega)
set_option maxHeartbeats 1000000 in
theorem sameBatch_ok {a b : Slc} {xs : List Txm} {w : World} {K : Bool → World → Prop} (ha : RdB w a xs) (hb : RdB w b xs) (hl : xs.length ≤ 1000000) (few : ∀ x ∈ xs, x.args.length ≤ 1000000 ∧ x.reads.length ≤ 1000000 ∧ x.writes.length ≤ 1000000)
    (hK : ∀ w', Ch [] w w' → K true w') : c_preludelaw06_sameBatch a b w K := by
  refine sim_preludelaw06_sameBatch ?_
  unfold sh_preludelaw06_sameBatch
  have la := ha.len
  have lb := hb.len
  refine iteB_ne (fun h => absurd (by omega) h) (fun _ => ?_)
  refine loopP_inv (fun st w1 => ∃ i : Nat, st.1 = (i : Int) ∧ i ≤ xs.length ∧ Ch [] w w1) (fun st _ => xs.length - st.1.toNat) ⟨0, rfl, Nat.zero_le _, Ch.refl _ _⟩ ?_
  rintro ⟨i0, u⟩ w1 next ⟨i, rfl, hi, hc⟩ hnext
  dsimp only
  refine iteB_dec (fun h => ?_) (fun h => hK w1 hc)
  have hlt : i < xs.length := by omega
  obtain ⟨f1, f2, f3⟩ := few xs[i] (List.getElem_mem hlt)
  obtain ⟨ad, ag, rs, ws, hA, ia⟩ := (ha.ch0 hc).at' hlt
  refine ia _ _ rfl (ldTx hA ?_)
  refine newTx fun k1 w2 hc2 hb2 hk2 hs2 => ?_
  replace hA := hA.ch0 hc2
  replace hc2 := hc.tr hc2
  obtain ⟨bd, bg, br, bw, hB, ib⟩ := (hb.ch0 hc2).at' hlt
  refine ib _ _ rfl (ldTx hB ?_)
  refine newTx fun k3 w3 hc3 hb3 hk3 hs3 => ?_
  replace hA := hA.ch0 hc3
  replace hB := hB.ch0 hc3
  replace hb2 := hb2.ch0 hc3
  replace hc3 := hc2.tr hc3
  refine ldI_b (o := 0) hb2 rfl (ldI_b (o := 0) hb3 rfl (iteB_ne (fun h => absurd rfl h) fun _ => ?_))
  refine ldS_b (s := ag) hb2 rfl (ldS_b (s := bg) hb3 rfl ?_)
  refine sameInts_ok hA.fa hB.fa (by omega) fun w4 hc4 => iteB_neg (by simp) ?_
  refine ldS_b (s := rs) (hb2.ch0 hc4) rfl (ldS_b (s := br) (hb3.ch0 hc4) rfl ?_)
  refine sameKeys_ok (hA.fr.ch0 hc4) (hB.fr.ch0 hc4) (by omega) fun w5 hc5 => iteB_neg rfl ?_
  replace hc5 := hc4.tr hc5
  refine ldS_b (s := ws) (hb2.ch0 hc5) rfl (ldS_b (s := bw) (hb3.ch0 hc5) rfl ?_)
  refine sameKeys_ok (hA.fw.ch0 hc5) (hB.fw.ch0 hc5) (by omega) fun w6 hc6 => iteB_neg rfl ?_
  rw [wrap_i64 (by omega)]
  exact hnext _ _ ⟨i + 1, by simp, hlt, (hc3.tr hc5).tr hc6⟩ (by simp; omega)
/-- A list that is written over. -/
theorem LR.weak {P : Nat → Prop} {w : World} {t : TypeId} {sz : Nat} {mk : List Value} {n : Nat} {s : Slc} {vs : List Value} (h : LR P w t sz mk n s vs) : s.l = n ∧ (n = 0 ∨ ∃ (k : Nat) (cur : Array Value), P k ∧ k < w.heap.size ∧ s.a = some ⟨k, 0, none⟩ ∧ Blk w k cur t ∧ n * sz ≤ cur.size) := by
  rcases h with ⟨rfl, h1, h2⟩ | ⟨k, cur, h1, rfl, h3, h4, _⟩
  · exact ⟨h1.symm, .inl h1⟩
  · exact ⟨rfl, .inr ⟨k, cur, h1, h3.lt, rfl, h3, by rw [h4]; exact Nat.mul_le_mul_right _ (by omega)⟩⟩
end Go.Proofs.YtlnhecbgjjglfaaGreat
