/- VKept: is a given call as it was, marks and all? -/
import Derived.Test.YtlkgnfpjmafdkaaVGiv
set_option linter.unusedVariables false
set_option linter.unusedSimpArgs false
namespace Go.Proofs.Ytlkgnfpjmafdkaa
open Go Go.Sh Go.Pl Go.RowKit Go.Lang Go.Vm Go.Gt
theorem neq_cel (x y : Operand) (a : Bool) (b : Int) (c : Bool) (d : Int) (w : World) :
    (do eqGuard .neq 58 x y (.agg #[.bool a, .int .i64 b]) (.agg #[.bool c, .int .i64 d]); binOp .neq 58 (.agg #[.bool a, .int .i64 b]) (.agg #[.bool c, .int .i64 d])).run Try.prog w = .ok (.bool (!(a == c && b == d))) w := by
  have h1 : Try.prog.eqGuardType Try.prog.depth 58 = false := by kernel_rfl
  have h2 : Try.prog.underlying 58 = some (.struct (Try.prog.fieldsOf 58)) := by kernel_rfl
  have h3 : Try.prog.stoodInHeld 58 = false := by kernel_rfl
  have h4 : (Try.prog.fieldsOf 58).toList.map (fun f => (f.name != "_", f.type, f.offset)) = [(true, 4, 0), (true, 2, 1)] := by kernel_rfl
  have p0 : Try.prog.plainKey 4 = true := by kernel_rfl
  have p1 : Try.prog.plainKey 2 = true := by kernel_rfl
  have u0 : Try.prog.underlying 4 = some .bool := by kernel_rfl
  have u1 : Try.prog.underlying 2 = some (.int .i64) := by kernel_rfl
  rw [Sem.run_bind, run_eqGuard_agg _ _ _ _ _ _ _ h1, Result.andThen_ok, run_neq_struct, run_equalIn_agg w 9999 58 _ _ h2 h3]
  generalize (Try.prog.fieldsOf 58).toList = fs at h4
  obtain ⟨f0, f1, rfl⟩ : ∃ f0 f1, fs = [f0, f1] := by
    have hl := congrArg List.length h4
    simp at hl
    match fs, hl with
    | [x, y], _ => exact ⟨x, y, rfl⟩
  simp only [List.map_cons, List.map_nil, List.cons.injEq, Prod.mk.injEq, and_true] at h4
  obtain ⟨⟨n0, t0, o0⟩, n1, t1, o1⟩ := h4
  have m0 : f0.name ≠ "_" := by simpa using n0
  have m1 : f1.name ≠ "_" := by simpa using n1
  unfold Op.eqFields
  rw [if_pos m0, t0, o0]
  simp only [Sem.run_bind, run_part_plain (w := w) p0 (show (#[Value.bool a, .int .i64 b] : Array Value)[0]? = some (.bool a) from rfl), run_part_plain (w := w) p0 (show (#[Value.bool c, .int .i64 d] : Array Value)[0]? = some (.bool c) from rfl), Result.andThen_ok, run_equalIn_bool w 9998 4 a c u0]
  by_cases hac : a = c
  · subst hac
    simp only [beq_self_eq_true, Bool.not_true, Bool.false_eq_true, if_false]
    unfold Op.eqFields
    rw [if_pos m1, t1, o1]
    simp only [Sem.run_bind, run_part_plain (w := w) p1 (show (#[Value.bool a, .int .i64 b] : Array Value)[1]? = some (.int .i64 b) from rfl), run_part_plain (w := w) p1 (show (#[Value.bool a, .int .i64 d] : Array Value)[1]? = some (.int .i64 d) from rfl), Result.andThen_ok, run_equalIn_int w 9998 2 .i64 .i64 b d u1]
    by_cases hbd : b = d
    · subst hbd; simp [Op.eqFields]
    · simp [hbd]
  · simp [hac]
/-- The element behind the front of a row. -/
theorem behind {w : World} {e : TypeId} {sz : Nat} {s : Slc} {vs : List Value} {us : List Value} {n : Nat} {K : Addr → Prop} (h : Own w e sz ⟨s.a, s.l + 1, s.c⟩ (vs ++ us)) (hv : vs.length = n * sz) (hn : s.l = n) (hu : us.length = sz)
    (hK : ∀ ad, (∀ j v, us[j]? = some v → w.cell? (ad.add j) = some v) → K ad) (hna : s.a ≠ none) : idxP s.a (s.l + 1) (n : Int) sz K := by
  cases ha : s.a with
  | none => exact absurd ha hna
  | some ad =>
    refine ⟨by omega, by omega, ad, rfl, hK _ fun j v hj => ?_⟩
    have hlt := (List.getElem?_eq_some_iff.1 hj).1
    have : (vs ++ us)[n * sz + j]? = some v := by rw [List.getElem?_append_right (by omega), hv, Nat.add_sub_cancel_left]; exact hj
    obtain ⟨ad', ha', hx⟩ := h.cell this
    have ha' : s.a = some ad' := ha'
    rw [ha] at ha'
    cases ha'
    rw [Int.toNat_natCast, Deep.add_add]
    exact hx
set_option maxRecDepth 8000 in
set_option maxHeartbeats 1000000 in
theorem kept_ok {E : En} {s sa sr t ta tR : Slc} {w : World} {K : Bool → World → Prop} (hn : Gn w E t ta tR) (hG : Gv w E s sa sr) (hK : ∀ w', Ch [] w w' → K true w') : c_preludelaw05_kept E.a E.b E.c E.d t ta tR E.a E.b E.c E.d s sa sr w K := by
  refine sim_preludelaw05_kept ?_
  unfold sh_preludelaw05_kept
  have gv := hn.gv hG
  have lc := hG.rc.len
  have lc' := gv.rc.len
  have b16 := hG.b16
  have b8 := hG.b8
  have br := hG.br
  have la := hG.la
  have la' := hn.la
  have lr := hG.lr
  have lr' := hn.lr
  refine newB fun k1 w1 hc1 hb1 hk1 hs1 => newB fun k3 w2 hc2 hb3 hk3 hs2 => ?_
  replace hb1 := hb1.ch0 hc2
  have c02 := hc1.tr hc2
  refine ldS_b (s := t) hb1 rfl (ldS_b (s := s) hb3 rfl (iteB_neg (by simp [lc, lc']) ?_))
  refine ldS_b (s := tR) hb1 rfl (ldS_b (s := sr) hb3 rfl (iteB_neg (by simp [lr, lr']) ?_))
  refine ldS_b (s := ta) hb1 rfl (ldS_b (s := sa) hb3 rfl ?_)
  have rd1 : ∀ {w' : World} {x : Slc}, RdQ w' 1 x (Is .i64 E.args) → Rd w' x (Is .i64 E.args) := fun h => ⟨by rw [Is_length]; have := h.len; rw [Is_length] at this; omega, h.cap, fun i hi => by
    obtain ⟨ad, ha, hx⟩ := h.at_ i _ (List.getElem?_eq_getElem hi)
    exact ⟨ad, ha, by rw [hx, List.getElem?_eq_getElem hi]⟩⟩
  refine sameWords_ok (rd1 (gv.ra.ch0 c02)) (rd1 (hG.ra.ch0 c02)) (by omega) fun w3 hc3 => ?_
  rw [decide_eq_true rfl]
  refine iteB_neg rfl ?_
  refine loopP_inv (fun st w4 => ∃ i : Nat, st.1 = (i : Int) ∧ i ≤ E.is.length ∧ Ch [] w2 w4) (fun st _ => E.is.length - st.1.toNat) ⟨0, rfl, Nat.zero_le _, hc3⟩ ?_
  rintro ⟨i0, u⟩ w4 next ⟨i, rfl, hi, hc4⟩ hnext
  dsimp only
  refine ldS_b (s := s) (hb3.ch0 hc4) rfl (iteB_dec (fun h => ?_) fun h => ?_)
  · have hlt : i < E.is.length := by omega
    have hcd : Ch [] w2 w4.drew := hc4.tr (Ch.drew _)
    refine ldS_b (s := t) (hb1.ch0 hcd) rfl ?_
    refine (gv.rc.ch0 (c02.tr hcd)).idx rfl hlt fun ad c1 c2 => ldI_of c1 (ldI_of c2 ?_)
    refine ldS_b (s := s) (hb3.ch0 hcd) rfl ?_
    refine (hG.rc.ch0 (c02.tr hcd)).idx rfl hlt fun ad c1 c2 => ldI_of c1 (ldI_of c2 ?_)
    refine ⟨_, w4.drew, neq_instr _ _ _ _ _ _ _, iteB_neg (by simp) ?_⟩
    rw [wrap_i64 (by omega)]
    exact hnext _ _ ⟨i + 1, by simp, hlt, hcd⟩ (by simp; omega)
  clear hnext h hi
  refine loopP_inv (fun st w5 => ∃ i : Nat, st.1 = (i : Int) ∧ i ≤ E.rs.length ∧ Ch [] w2 w5) (fun st _ => E.rs.length - st.1.toNat) ⟨0, rfl, Nat.zero_le _, hc4⟩ ?_
  rintro ⟨i0, u⟩ w5 next ⟨i, rfl, hi, hc5⟩ hnext
  dsimp only
  refine ldS_b (s := sr) (hb3.ch0 hc5) rfl (iteB_dec (fun h => ?_) fun h => ?_)
  · have hlt : i < E.rs.length := by omega
    have hcd : Ch [] w2 w5.drew := hc5.tr (Ch.drew _)
    have hx : E.rs[(Int.toNat (i : Int))]? = some E.rs[i] := by rw [Int.toNat_natCast]; exact List.getElem?_eq_getElem hlt
    have celA : ∀ {x : Slc} {K : Addr → Prop}, RdQ w5.drew 2 x (flatR E.rs) → (∀ ad, w5.drew.cell? ad = some (.bool E.rs[i].1) → w5.drew.cell? (ad.add 1) = some (.int .i64 E.rs[i].2) → K ad) → idxP x.a x.l (i : Int) 2 K := fun {x K} h hK => by
      obtain ⟨e1, e2⟩ := flatR_at _ _ _ (List.getElem?_eq_getElem hlt)
      obtain ⟨ad, ha, c1⟩ := h.at_ _ _ e1
      obtain ⟨ad', ha', c2⟩ := h.at_ _ _ e2
      rw [ha] at ha'; cases ha'
      have hl := h.len
      rw [flatR_length] at hl
      exact ⟨by omega, by omega, ad, ha, by rw [Int.toNat_natCast]; exact hK _ c1 (by rw [Deep.add_add]; exact c2)⟩
    refine ldS_b (s := tR) (hb1.ch0 hcd) rfl ?_
    refine celA (gv.rr.ch0 (c02.tr hcd)) fun ad c1 c2 => ldB_of c1 (ldI_of c2 ?_)
    refine ldS_b (s := sr) (hb3.ch0 hcd) rfl ?_
    refine celA (hG.rr.ch0 (c02.tr hcd)) fun ad c1 c2 => ldB_of c1 (ldI_of c2 ?_)
    refine ⟨_, w5.drew, neq_cel _ _ _ _ _ _ _, iteB_neg (by simp) ?_⟩
    rw [wrap_i64 (by omega)]
    exact hnext _ _ ⟨i + 1, by simp, hlt, hcd⟩ (by simp; omega)
  have hn5 := hn.ch0 (c02.tr hc5)
  have hb15 := hb1.ch0 hc5
  have hb35 := hb3.ch0 hc5
  refine ldS_b (s := t) hb15 rfl (ldS_b (s := s) hb35 rfl (slF (n := t.l + 1) (by rw [wrap_i64 (by omega)]; omega) hn5.oc.rdQ.cap ?_))
  refine ldS_b (s := ta) hb15 rfl (ldS_b (s := sa) hb35 rfl (slF (n := ta.l + 1) (by rw [wrap_i64 (by omega)]; omega) hn5.oa.rdQ.cap ?_))
  refine ldS_b (s := tR) hb15 rfl (ldS_b (s := sr) hb35 rfl (slF (n := tR.l + 1) (by rw [wrap_i64 (by omega)]; omega) hn5.oR.rdQ.cap ?_))
  refine ldS_b (s := s) hb35 rfl ?_
  rw [lc]
  refine behind hn5.oc (flat_length _) hn5.lc rfl (fun ad c => ldI_of (c 0 _ rfl) (iteB_pos rfl ?_)) hn5.nc
  refine ldS_b (s := sa) hb35 rfl ?_
  rw [la]
  refine behind hn5.oa (by rw [Is_length]; omega) hn5.la rfl (fun ad c => ldI_of (c 0 _ rfl) (iteB_pos rfl ?_)) hn5.na
  refine ldS_b (s := sr) hb35 rfl ?_
  rw [lr]
  exact behind hn5.oR (flatR_length _) hn5.lr rfl (fun ad c => ldI_of (c 1 _ rfl) (hK w5 (c02.tr hc5))) hn5.nr
end Go.Proofs.Ytlkgnfpjmafdkaa
