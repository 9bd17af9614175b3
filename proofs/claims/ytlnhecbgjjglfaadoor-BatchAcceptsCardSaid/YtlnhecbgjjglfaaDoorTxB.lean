/- TxB: lists of keys that are lent; what lies behind; whether two are the same; what was lent is written over. -/
import Derived.Test.YtlnhecbgjjglfaaDoorTx
set_option linter.unusedVariables false
set_option linter.unusedSimpArgs false
namespace Go.Proofs.YtlnhecbgjjglfaaDoor
open Go Go.Sh Go.Pl Go.RowKit
theorem neq_key (x y : Operand) (a b c d : Int) (w : World) :
    (do eqGuard .neq 100 x y (.agg #[.int .i64 a, .int .i64 b]) (.agg #[.int .i64 c, .int .i64 d]); binOp .neq 100 (.agg #[.int .i64 a, .int .i64 b]) (.agg #[.int .i64 c, .int .i64 d])).run Tryd.prog w = .ok (.bool (!(a == c && b == d))) w := by
  have h1 : Tryd.prog.eqGuardType Tryd.prog.depth 100 = false := by kernel_rfl
  have h2 : Tryd.prog.underlying 100 = some (.struct (Tryd.prog.fieldsOf 100)) := by kernel_rfl
  have h3 : Tryd.prog.stoodInHeld 100 = false := by kernel_rfl
  have h4 : (Tryd.prog.fieldsOf 100).toList.map (fun f => (f.name != "_", f.type, f.offset)) = [(true, 3, 0), (true, 2, 1)] := by kernel_rfl
  have p0 : Tryd.prog.plainKey 3 = true := by kernel_rfl
  have p1 : Tryd.prog.plainKey 2 = true := by kernel_rfl
  have u0 : Tryd.prog.underlying 3 = some (.int .i64) := by kernel_rfl
  have u1 : Tryd.prog.underlying 2 = some (.int .i64) := by kernel_rfl
  rw [Sem.run_bind, run_eqGuard_agg _ _ _ _ _ _ _ h1, Result.andThen_ok, run_neq_struct, run_equalIn_agg w 9999 100 _ _ h2 h3]
  generalize (Tryd.prog.fieldsOf 100).toList = fs at h4
  obtain ⟨f0, f1, rfl⟩ : ∃ f0 f1, fs = [f0, f1] := by
    have hl := congrArg List.length h4
    simp at hl
    match fs, hl with
    | [x, y], _ => exact ⟨x, y, rfl⟩
  simp only [List.map_cons, List.map_nil, List.cons.injEq, Prod.mk.injEq, and_true] at h4
  obtain ⟨⟨n0, t0, o0⟩, n1, t1, o1⟩ := h4
  have m0 : f0.name ≠ "_" := by simpa using n0
  have m1 : f1.name ≠ "_" := by simpa using n1
  unfold Op.eqFields
  rw [if_pos m0, t0, o0]
  simp only [Sem.run_bind, run_part_plain (w := w) p0 (show (#[Value.int .i64 a, .int .i64 b] : Array Value)[0]? = some (.int .i64 a) from rfl), run_part_plain (w := w) p0 (show (#[Value.int .i64 c, .int .i64 d] : Array Value)[0]? = some (.int .i64 c) from rfl), Result.andThen_ok, run_equalIn_int w 9998 3 .i64 .i64 a c u0]
  by_cases hac : a = c
  · subst hac
    simp only [beq_self_eq_true, Bool.not_true, Bool.false_eq_true, if_false]
    unfold Op.eqFields
    rw [if_pos m1, t1, o1]
    simp only [Sem.run_bind, run_part_plain (w := w) p1 (show (#[Value.int .i64 a, .int .i64 b] : Array Value)[1]? = some (.int .i64 b) from rfl), run_part_plain (w := w) p1 (show (#[Value.int .i64 a, .int .i64 d] : Array Value)[1]? = some (.int .i64 d) from rfl), Result.andThen_ok, run_equalIn_int w 9998 2 .i64 .i64 b d u1]
    by_cases hbd : b = d
    · subst hbd; simp [Op.eqFields]
    · simp [hbd]
  · simp [hac]
theorem sameInts_ok {a b : Slc} {xs ys : List Int} {w : World} {K : Bool → World → Prop} (ha : Rd w a (Is .i64 xs)) (hb : Rd w b (Is .i64 ys)) (hl : xs.length ≤ 9000000000000000000)
    (hK : ∀ w', Ch [] w w' → K (decide (xs = ys)) w') : c_preludelaw06_sameInts a b w K := by
  refine sim_preludelaw06_sameInts ?_
  unfold sh_preludelaw06_sameInts
  exact sameF ha hb hl hK
theorem sameKeys_ok {a b : Slc} {xs : List (Int × Int)} {w : World} {K : Bool → World → Prop} (ha : RdC w a xs) (hb : RdC w b xs) (hl : xs.length ≤ 9000000000000000000)
    (hK : ∀ w', Ch [] w w' → K true w') : c_preludelaw06_sameKeys a b w K := by
  refine sim_preludelaw06_sameKeys ?_
  unfold sh_preludelaw06_sameKeys
  have la := ha.len
  have lb := hb.len
  refine iteB_ne (fun h => absurd (by omega) h) (fun _ => ?_)
  refine loopP_inv (fun st w1 => ∃ i : Nat, st.1 = (i : Int) ∧ i ≤ xs.length ∧ Ch [] w w1) (fun st _ => xs.length - st.1.toNat) ⟨0, rfl, Nat.zero_le _, Ch.refl _ _⟩ ?_
  rintro ⟨i0, u⟩ w1 next ⟨i, rfl, hi, hc⟩ hnext
  dsimp only
  refine iteB_dec (fun h => ?_) (fun h => hK w1 hc)
  have hlt : i < xs.length := by omega
  have hcd := hc.tr (Ch.drew w1)
  refine (ha.ch0 hcd).idx rfl hlt fun ad h1 h2 => ldI_of h1 (ldI_of h2 ?_)
  refine (hb.ch0 hcd).idx rfl hlt fun ad h1 h2 => ldI_of h1 (ldI_of h2 ?_)
  refine ⟨false, w1.drew, ?_, iteB_neg rfl ?_⟩
  · rw [neq_key]; simp
  rw [wrap_i64 (by omega)]
  exact hnext _ _ ⟨i + 1, by simp, hlt, hcd⟩ (by simp; omega)
set_option maxHeartbeats 1000000 in
theorem sameBatch_ok {a b : Slc} {xs : List Txm} {w : World} {K : Bool → World → Prop} (ha : RdB w a xs) (hb : RdB w b xs) (hl : xs.length ≤ 1000000) (few : ∀ x ∈ xs, x.args.length ≤ 1000000 ∧ x.reads.length ≤ 1000000 ∧ x.writes.length ≤ 1000000)
    (hK : ∀ w', Ch [] w w' → K true w') : c_preludelaw06_sameBatch a b w K := by
  refine sim_preludelaw06_sameBatch ?_
  unfold sh_preludelaw06_sameBatch
  have la := ha.len
  have lb := hb.len
  refine iteB_ne (fun h => absurd (by omega) h) (fun _ => ?_)
  refine loopP_inv (fun st w1 => ∃ i : Nat, st.1 = (i : Int) ∧ i ≤ xs.length ∧ Ch [] w w1) (fun st _ => xs.length - st.1.toNat) ⟨0, rfl, Nat.zero_le _, Ch.refl _ _⟩ ?_
  rintro ⟨i0, u⟩ w1 next ⟨i, rfl, hi, hc⟩ hnext
  dsimp only
  refine iteB_dec (fun h => ?_) (fun h => hK w1 hc)
  have hlt : i < xs.length := by omega
  obtain ⟨f1, f2, f3⟩ := few xs[i] (List.getElem_mem hlt)
  obtain ⟨ad, ag, rs, ws, hA, ia⟩ := (ha.ch0 hc).at' hlt
  refine ia _ _ rfl (ldTx hA ?_)
  refine newTx fun k1 w2 hc2 hb2 hk2 hs2 => ?_
  replace hA := hA.ch0 hc2
  replace hc2 := hc.tr hc2
  obtain ⟨bd, bg, br, bw, hB, ib⟩ := (hb.ch0 hc2).at' hlt
  refine ib _ _ rfl (ldTx hB ?_)
  refine newTx fun k3 w3 hc3 hb3 hk3 hs3 => ?_
  replace hA := hA.ch0 hc3
  replace hB := hB.ch0 hc3
  replace hb2 := hb2.ch0 hc3
  replace hc3 := hc2.tr hc3
  refine ldI_b (o := 0) hb2 rfl (ldI_b (o := 0) hb3 rfl (iteB_ne (fun h => absurd rfl h) fun _ => ?_))
  refine ldS_b (s := ag) hb2 rfl (ldS_b (s := bg) hb3 rfl ?_)
  refine sameInts_ok hA.fa hB.fa (by omega) fun w4 hc4 => iteB_neg (by simp) ?_
  refine ldS_b (s := rs) (hb2.ch0 hc4) rfl (ldS_b (s := br) (hb3.ch0 hc4) rfl ?_)
  refine sameKeys_ok (hA.fr.ch0 hc4) (hB.fr.ch0 hc4) (by omega) fun w5 hc5 => iteB_neg rfl ?_
  replace hc5 := hc4.tr hc5
  refine ldS_b (s := ws) (hb2.ch0 hc5) rfl (ldS_b (s := bw) (hb3.ch0 hc5) rfl ?_)
  refine sameKeys_ok (hA.fw.ch0 hc5) (hB.fw.ch0 hc5) (by omega) fun w6 hc6 => iteB_neg rfl ?_
  rw [wrap_i64 (by omega)]
  exact hnext _ _ ⟨i + 1, by simp, hlt, (hc3.tr hc5).tr hc6⟩ (by simp; omega)
/-- A list that is written over. -/
theorem LR.weak {P : Nat → Prop} {w : World} {t : TypeId} {sz : Nat} {mk : List Value} {n : Nat} {s : Slc} {vs : List Value} (h : LR P w t sz mk n s vs) : s.l = n ∧ (n = 0 ∨ ∃ (k : Nat) (cur : Array Value), P k ∧ k < w.heap.size ∧ s.a = some ⟨k, 0, none⟩ ∧ Blk w k cur t ∧ n * sz ≤ cur.size) := by
  rcases h with ⟨rfl, h1, h2⟩ | ⟨k, cur, h1, rfl, h3, h4, _⟩
  · exact ⟨h1.symm, .inl h1⟩
  · exact ⟨rfl, .inr ⟨k, cur, h1, h3.lt, rfl, h3, by rw [h4]; exact Nat.mul_le_mul_right _ (by omega)⟩⟩
end Go.Proofs.YtlnhecbgjjglfaaDoor
