/- Keys: keys compared, lists of keys that rise. -/
import Derived.Test.YtlnhecbgjjglfaaDoorTxB
set_option linter.unusedVariables false
set_option linter.unusedSimpArgs false
namespace Go.Pl
open Go
abbrev Ky := Int × Int
def kOk (k : Ky) : Bool := decide (0 ≤ k.1 ∧ k.1 ≤ 65535)
def kLt (a b : Ky) : Bool := decide (a.1 < b.1 ∨ (a.1 = b.1 ∧ a.2 < b.2))
def kAt (l : List Ky) (j : Nat) : Ky := l[j]?.getD (0, 0)
def rQ (l : List Ky) (j : Nat) : Prop := kOk (kAt l j) = true ∧ (j ≠ 0 → kLt (kAt l (j - 1)) (kAt l j) = true)
instance (l : List Ky) (j : Nat) : Decidable (rQ l j) := by unfold rQ; infer_instance
def rises (l : List Ky) : Bool := decide (∀ j, j < l.length → rQ l j)
def cmpK (a b : Ky) : Int := if kLt a b then -1 else if a = b then 0 else 1
theorem kAt_lt {l : List Ky} {j : Nat} (h : j < l.length) : kAt l j = l[j] := by unfold kAt; rw [List.getElem?_eq_getElem h]; rfl
theorem cmpK_neg (a b : Ky) : cmpK a b < 0 ↔ kLt a b = true := by
  unfold cmpK
  cases h : kLt a b with
  | true => simp
  | false =>
    simp
    split <;> omega
theorem cmpK_eq (a b : Ky) : cmpK a b = if a.1 < b.1 then -1 else if a.1 > b.1 then 1 else if a.2 < b.2 then -1 else if a.2 > b.2 then 1 else 0 := by
  obtain ⟨a1, a2⟩ := a
  obtain ⟨b1, b2⟩ := b
  unfold cmpK kLt
  simp only [decide_eq_true_eq, Prod.mk.injEq]
  repeat' split <;> try omega
end Go.Pl
namespace Go.Proofs.YtlnhecbgjjglfaaDoor
open Go Go.Sh Go.Pl Go.RowKit
theorem eql_key (x y : Operand) (a b c d : Int) (w : World) :
    (do eqGuard .eql 100 x y (.agg #[.int .i64 a, .int .i64 b]) (.agg #[.int .i64 c, .int .i64 d]); binOp .eql 100 (.agg #[.int .i64 a, .int .i64 b]) (.agg #[.int .i64 c, .int .i64 d])).run Tryd.prog w = .ok (.bool (a == c && b == d)) w := by
  have h1 : Tryd.prog.eqGuardType Tryd.prog.depth 100 = false := by kernel_rfl
  have h2 : Tryd.prog.underlying 100 = some (.struct (Tryd.prog.fieldsOf 100)) := by kernel_rfl
  have h3 : Tryd.prog.stoodInHeld 100 = false := by kernel_rfl
  have h4 : (Tryd.prog.fieldsOf 100).toList.map (fun f => (f.name != "_", f.type, f.offset)) = [(true, 3, 0), (true, 2, 1)] := by kernel_rfl
  have p0 : Tryd.prog.plainKey 3 = true := by kernel_rfl
  have p1 : Tryd.prog.plainKey 2 = true := by kernel_rfl
  have u0 : Tryd.prog.underlying 3 = some (.int .i64) := by kernel_rfl
  have u1 : Tryd.prog.underlying 2 = some (.int .i64) := by kernel_rfl
  rw [Sem.run_bind, run_eqGuard_agg _ _ _ _ _ _ _ h1, Result.andThen_ok, run_eql_struct, run_equalIn_agg w 9999 100 _ _ h2 h3]
  generalize (Tryd.prog.fieldsOf 100).toList = fs at h4
  obtain ⟨f0, f1, rfl⟩ : ∃ f0 f1, fs = [f0, f1] := by
    have hl := congrArg List.length h4
    simp at hl
    match fs, hl with
    | [x, y], _ => exact ⟨x, y, rfl⟩
  simp only [List.map_cons, List.map_nil, List.cons.injEq, Prod.mk.injEq, and_true] at h4
  obtain ⟨⟨n0, t0, o0⟩, n1, t1, o1⟩ := h4
  have m0 : f0.name ≠ "_" := by simpa using n0
  have m1 : f1.name ≠ "_" := by simpa using n1
  unfold Op.eqFields
  rw [if_pos m0, t0, o0]
  simp only [Sem.run_bind, run_part_plain (w := w) p0 (show (#[Value.int .i64 a, .int .i64 b] : Array Value)[0]? = some (.int .i64 a) from rfl), run_part_plain (w := w) p0 (show (#[Value.int .i64 c, .int .i64 d] : Array Value)[0]? = some (.int .i64 c) from rfl), Result.andThen_ok, run_equalIn_int w 9998 3 .i64 .i64 a c u0]
  by_cases hac : a = c
  · subst hac
    simp only [beq_self_eq_true, Bool.not_true, Bool.false_eq_true, if_false]
    unfold Op.eqFields
    rw [if_pos m1, t1, o1]
    simp only [Sem.run_bind, run_part_plain (w := w) p1 (show (#[Value.int .i64 a, .int .i64 b] : Array Value)[1]? = some (.int .i64 b) from rfl), run_part_plain (w := w) p1 (show (#[Value.int .i64 a, .int .i64 d] : Array Value)[1]? = some (.int .i64 d) from rfl), Result.andThen_ok, run_equalIn_int w 9998 2 .i64 .i64 b d u1]
    by_cases hbd : b = d
    · subst hbd; simp [Op.eqFields]
    · simp [hbd]
  · simp [hac]
theorem rcompare_ok {a b c d : Int} {w : World} {K : Int → World → Prop} (hK : ∀ w', Ch [] w w' → K (cmpK (a, b) (c, d)) w') : c_preluderef02_Compare a b c d w K := by
  refine sim_preluderef02_Compare ?_
  unfold sh_preluderef02_Compare
  refine newB fun k1 w1 hc1 hb1 hk1 hs1 => ?_
  refine newB fun k2 w2 hc2 hb2 hk2 hs2 => ?_
  replace hb1 := hb1.ch0 hc2
  have hc := hc1.tr hc2
  have e := cmpK_eq (a, b) (c, d)
  simp only at e
  refine ldI_b (o := 0) hb1 rfl (ldI_b (o := 0) hb2 rfl (iteB_dec (fun h => ?_) fun h => ?_))
  · rw [if_pos h] at e; rw [← e]; exact hK w2 hc
  rw [if_neg h] at e
  refine ldI_b (o := 0) hb1 rfl (ldI_b (o := 0) hb2 rfl (iteB_dec (fun h => ?_) fun h => ?_))
  · rw [if_pos h] at e; rw [← e]; exact hK w2 hc
  rw [if_neg h] at e
  refine ldI_b (o := 1) hb1 rfl (ldI_b (o := 1) hb2 rfl (iteB_dec (fun h => ?_) fun h => ?_))
  · rw [if_pos h] at e; rw [← e]; exact hK w2 hc
  rw [if_neg h] at e
  refine ldI_b (o := 1) hb1 rfl (ldI_b (o := 1) hb2 rfl (iteB_dec (fun h => ?_) fun h => ?_))
  · rw [if_pos h] at e; rw [← e]; exact hK w2 hc
  rw [if_neg h] at e
  rw [← e]; exact hK w2 hc
theorem rkey_ok {a b : Int} {w : World} {K : Int → World → Prop} (hK : ∀ w', Ch [] w w' → K (if kOk (a, b) then 0 else 20) w') : c_preluderef02_Check a b w K := by
  refine sim_preluderef02_Check ?_
  unfold sh_preluderef02_Check
  refine newB fun k1 w1 hc1 hb1 hk1 hs1 => ?_
  unfold kOk at hK
  refine ldI_b (o := 0) hb1 rfl (iteB_dec (fun h => ?_) fun h => ?_)
  · have := hK w1 hc1
    rwa [decide_eq_false (by simp only []; omega)] at this
  refine ldI_b (o := 0) hb1 rfl (iteB_dec (fun h => ?_) fun h => ?_)
  · have := hK w1 hc1
    rwa [decide_eq_false (by simp only []; omega)] at this
  · have := hK w1 hc1
    rwa [decide_eq_true (by simp only []; omega)] at this
set_option maxHeartbeats 1000000 in
theorem rrises_ok {s : Slc} {l : List Ky} {w : World} {K : Bool → World → Prop} (hs : RdC w s l) (hl : l.length ≤ 1000000) (hK : ∀ w', Ch [] w w' → K (rises l) w') : c_preluderef02_Rises s w K := by
  refine sim_preluderef02_Rises ?_
  unfold sh_preluderef02_Rises
  have ls := hs.len
  refine sim_preluderef02_all ?_
  unfold sh_preluderef02_all
  have fin : ∀ (ok : Bool) (w1 : World), Ch [] w w1 → ok = decide (∀ j, j < l.length → kOk (kAt l j) = true) →
      loopP (σ := Bool × Int × Unit) (fun st4 next3 w5 => (fun (ok_6 : Bool) (i_7 : Int) => iteB (decide ((i_7 : Int) < (s.l : Int)))
  (iteB ok_6
  (idxP s.a s.l (IntKind.i64.wrap (i_7 - 1)) 2 fun a8 => ldI .i64 a8 w5.drew fun n9 => ldI .i64 (a8.add 1) w5.drew fun n10 => idxP s.a s.l i_7 2 fun a11 => ldI .i64 a11 w5.drew fun n12 => ldI .i64 (a11.add 1) w5.drew fun n13 => c_preluderef02_Compare n9 n10 n12 n13 w5.drew fun r14 w15 => next3 ((decide ((r14 : Int) < 0)), (IntKind.i64.wrap (i_7 + 1)), ()) w15)
  (next3 (false, (IntKind.i64.wrap (i_7 + 1)), ()) w5.drew))
  (K ok_6 w5)) st4.1 st4.2.1) (ok, 1, ()) w1 := fun ok w1 hc1 hok => by
    refine loopP_inv (fun st w2 => ∃ i : Nat, st.2.1 = (i : Int) ∧ 1 ≤ i ∧ (i ≤ l.length ∨ i = 1) ∧ Ch [] w w2 ∧ (st.1 = true ↔ (∀ j, j < l.length → kOk (kAt l j) = true) ∧ ∀ j, j < i → j < l.length → j ≠ 0 → kLt (kAt l (j - 1)) (kAt l j) = true)) (fun st _ => l.length - st.2.1.toNat)
      ⟨1, rfl, by omega, .inr rfl, hc1, by rw [hok, decide_eq_true_eq]; exact ⟨fun h => ⟨h, fun j h1 h2 h3 => by omega⟩, fun h => h.1⟩⟩ ?_
    rintro ⟨ok2, i0, u⟩ w2 next ⟨i, rfl, h1, hi, hc2, hiff⟩ hnext
    dsimp only at hiff ⊢
    refine iteB_dec (fun h => ?_) (fun h => ?_)
    · have hlt : i < l.length := by omega
      have hcd := hc2.tr (Ch.drew w2)
      cases ok2 with
      | true =>
        obtain ⟨p1, p2⟩ := hiff.1 rfl
        refine iteB_pos rfl ?_
        rw [wrap_i64 (by omega), wrap_i64 (by omega)]
        refine (hs.ch0 hcd).idx (i := i - 1) (by omega) (by omega) fun ad a1 a2 => ldI_of a1 (ldI_of a2 ?_)
        refine (hs.ch0 hcd).idx rfl hlt fun ad b1 b2 => ldI_of b1 (ldI_of b2 ?_)
        refine rcompare_ok fun w3 hc3 => ?_
        refine hnext _ _ ⟨i + 1, by simp, by omega, .inl (by omega), hcd.tr hc3, ?_⟩ (by simp; omega)
        rw [decide_eq_true_eq, cmpK_neg]
        show kLt l[i - 1] l[i] = true ↔ _
        rw [← kAt_lt (l := l) (j := i - 1) (by omega), ← kAt_lt hlt]
        refine ⟨fun hk => ⟨p1, fun j j1 j2 j3 => ?_⟩, fun hk => hk.2 i (by omega) hlt (by omega)⟩
        rcases Nat.lt_or_ge j i with g | g
        · exact p2 j g j2 j3
        · have : j = i := by omega
          subst this
          exact hk
      | false =>
        refine iteB_neg rfl ?_
        rw [wrap_i64 (by omega)]
        refine hnext _ _ ⟨i + 1, by simp, by omega, .inl (by omega), hcd, ?_⟩ (by simp; omega)
        refine ⟨fun h => (by cases h), fun hk => hiff.2 ⟨hk.1, fun j j1 j2 j3 => hk.2 j (by omega) j2 j3⟩⟩
    · have : ok2 = rises l := by
        unfold rises
        rw [Bool.eq_iff_iff, hiff, decide_eq_true_eq]
        constructor
        · intro ⟨g1, g2⟩ j hj
          exact ⟨g1 j hj, fun h0 => g2 j (by omega) hj h0⟩
        · intro g
          exact ⟨fun j hj => (g j hj).1, fun j j1 j2 j3 => (g j j2).2 j3⟩
      rw [this]
      exact hK w2 hc2
  refine loopP_inv (fun st w2 => ∃ i : Nat, st.1 = (i : Int) ∧ i ≤ l.length ∧ Ch [] w w2 ∧ ∀ j, j < i → kOk (kAt l j) = true) (fun st _ => l.length - st.1.toNat) ⟨0, rfl, Nat.zero_le _, Ch.refl _ _, fun j h => by omega⟩ ?_
  rintro ⟨i0, u⟩ w2 next ⟨i, rfl, hi, hc2, hp⟩ hnext
  dsimp only
  refine iteB_dec (fun h => ?_) (fun h => ?_)
  · have hlt : i < l.length := by omega
    refine (hs.ch0 hc2).idx rfl hlt fun ad b1 b2 => ldI_of b1 (ldI_of b2 ?_)
    refine rkey_ok fun w3 hc3 => ?_
    have e : ((l[i].1, l[i].2) : Ky) = kAt l i := by rw [kAt_lt hlt]
    rw [e]
    refine iteB_ne (fun h0 => ?_) (fun h0 => ?_)
    · refine fin false w3 (hc2.tr hc3) ?_
      rw [eq_comm, decide_eq_false_iff_not]
      intro g
      rw [g i hlt] at h0
      exact h0 rfl
    · rw [wrap_i64 (by omega)]
      refine hnext _ _ ⟨i + 1, by simp, hlt, hc2.tr hc3, fun j hj => ?_⟩ (by simp; omega)
      rcases Nat.lt_or_ge j i with g | g
      · exact hp j g
      · have : j = i := by omega
        subst this
        cases hk : kOk (kAt l j) with
        | true => rfl
        | false => rw [hk] at h0; simp at h0
  · refine fin true w2 hc2 ?_
    rw [eq_comm, decide_eq_true_eq]
    exact fun j hj => hp j (by omega)
theorem cmpI_ok {a b : Int} {w : World} {K : Int → World → Prop} (hK : K (if a < b then -1 else if a > b then 1 else 0) w) : c_cmp_Compare_int a b w K := by
  refine sim_cmp_Compare_int ?_
  unfold sh_cmp_Compare_int
  refine sim_cmp_isNaN_int (show sh_cmp_isNaN_int a w _ from ?_)
  unfold sh_cmp_isNaN_int
  refine sim_cmp_isNaN_int (show sh_cmp_isNaN_int b w _ from ?_)
  unfold sh_cmp_isNaN_int
  refine iteB_neg (by simp) (iteB_neg (by simp) (iteB_dec (fun h => ?_) fun h => iteB_dec (fun h' => ?_) fun h' => ?_))
  · rwa [if_pos h] at hK
  · rwa [if_neg h, if_pos h'] at hK
  · rwa [if_neg h, if_neg h'] at hK
theorem cmpI64_ok {a b : Int} {w : World} {K : Int → World → Prop} (hK : K (if a < b then -1 else if a > b then 1 else 0) w) : c_cmp_Compare_int64 a b w K := by
  refine sim_cmp_Compare_int64 ?_
  unfold sh_cmp_Compare_int64
  refine sim_cmp_isNaN_int64 (show sh_cmp_isNaN_int64 a w _ from ?_)
  unfold sh_cmp_isNaN_int64
  refine sim_cmp_isNaN_int64 (show sh_cmp_isNaN_int64 b w _ from ?_)
  unfold sh_cmp_isNaN_int64
  refine iteB_neg (by simp) (iteB_neg (by simp) (iteB_dec (fun h => ?_) fun h => iteB_dec (fun h' => ?_) fun h' => ?_))
  · rwa [if_pos h] at hK
  · rwa [if_neg h, if_pos h'] at hK
  · rwa [if_neg h, if_neg h'] at hK
theorem compare_ok {a b c d : Int} {w : World} {K : Int → World → Prop} (hK : ∀ w', Ch [] w w' → K (cmpK (a, b) (c, d)) w') : c_keys_Compare a b c d w K := by
  refine sim_keys_Compare ?_
  unfold sh_keys_Compare
  refine newB fun k1 w1 hc1 hb1 hk1 hs1 => ?_
  refine newB fun k2 w2 hc2 hb2 hk2 hs2 => ?_
  replace hb1 := hb1.ch0 hc2
  have hc := hc1.tr hc2
  have e := cmpK_eq (a, b) (c, d)
  simp only at e
  refine ldI_b (o := 0) hb1 rfl (ldI_b (o := 1) hb1 rfl (ldI_b (o := 0) hb2 rfl (ldI_b (o := 1) hb2 rfl ?_)))
  refine ⟨_, w2, eql_key _ _ a b c d w2, ?_⟩
  refine iteB_intro (fun h => ?_) (fun h => ?_)
  · have : a = c ∧ b = d := by simpa using h
    rw [this.1, this.2] at e
    rw [if_neg (by omega), if_neg (by omega), if_neg (by omega), if_neg (by omega)] at e
    rw [this.1, this.2] at hK
    rw [← e]; exact hK w2 hc
  have dn := Ch.drew w2
  replace hb1 := hb1.ch0 dn
  replace hb2 := hb2.ch0 dn
  refine ldI_b (o := 0) hb1 rfl (ldI_b (o := 0) hb2 rfl (ldI_b (o := 1) hb1 rfl (ldI_b (o := 1) hb2 rfl ?_)))
  refine cmpI_ok ⟨?_, ?_, ?_⟩
  · rw [add_mk, hb2.cell]; rfl
  · rw [add_mk, hb1.cell]; rfl
  refine cmpI64_ok ?_
  refine newB fun k3 w3 hc3 hb3 hk3 hs3 => ?_
  refine sim_cmp_Or_int ?_
  unfold sh_cmp_Or_int
  generalize hx : (if a < c then (-1 : Int) else if a > c then 1 else 0) = x at *
  generalize hy : (if b < d then (-1 : Int) else if b > d then 1 else 0) = y at *
  have hr : cmpK (a, b) (c, d) = if x ≠ 0 then x else y := by
    rw [e, ← hx, ← hy]
    repeat' split <;> try omega
  have hcc := (hc.tr dn).tr hc3
  have hrow : RowI w3 k3 .i64 3 [x, y] := hb3
  refine loopP_inv (fun st w4 => w4 = w3 ∧ ∃ i : Nat, st.1 = (i : Int) ∧ i ≤ 2 ∧ (1 ≤ i → x = 0) ∧ (2 ≤ i → y = 0)) (fun st _ => 2 - st.1.toNat) ⟨rfl, 0, rfl, by omega, by omega, by omega⟩ ?_
  rintro ⟨i0, u⟩ w4 next ⟨rfl, i, rfl, hi, h1, h2⟩ hnext
  dsimp only
  refine iteB_dec (fun h => ?_) (fun h => ?_)
  · have hlt : i < 2 := by omega
    have step : ∀ v : Int, [x, y][i]? = some v → idxP (some ⟨k3, 0, none⟩) 2 (i : Int) 1 fun a5 => ldI .i64 a5 w4 fun n6 => iteB ((n6 : Int) != 0) (K n6 w4) (next ((IntKind.i64.wrap ((i : Int) + 1)), ()) w4) := fun v hv => by
      refine hrow.get rfl (by omega) (by rw [Int.toNat_natCast]; exact hv) (iteB_ne (fun h0 => ?_) (fun h0 => ?_))
      · have : v = cmpK (a, b) (c, d) := by
          rw [hr]
          rcases (by omega : i = 0 ∨ i = 1) with rfl | rfl
          · simp at hv; subst hv; rw [if_pos h0]
          · simp at hv; subst hv; rw [if_neg (fun hh => hh (h1 (by omega)))]
        rw [this]; exact hK w4 hcc
      · rw [wrap_i64 (by omega)]
        refine hnext _ _ ⟨rfl, i + 1, by simp, by omega, fun _ => ?_, fun hi2 => ?_⟩ (by simp; omega)
        · rcases (by omega : i = 0 ∨ i = 1) with rfl | rfl
          · simp at hv; omega
          · exact h1 (by omega)
        · have : i = 1 := by omega
          subst this
          simp at hv; omega
    rcases (by omega : i = 0 ∨ i = 1) with rfl | rfl
    · exact step x rfl
    · exact step y rfl
  · have hi2 : i = 2 := by omega
    have : cmpK (a, b) (c, d) = 0 := by
      rw [hr, if_neg (fun hh => hh (h1 (by omega)))]; exact h2 (by omega)
    rw [← this]; exact hK w4 hcc
theorem key_ok {a b : Int} {w : World} {K : Int → World → Prop} (hK : ∀ w', Ch [] w w' → K (if kOk (a, b) then 0 else 20) w') : c_keys_Check a b w K := by
  refine sim_keys_Check ?_
  unfold sh_keys_Check
  refine newB fun k1 w1 hc1 hb1 hk1 hs1 => ?_
  unfold kOk at hK
  refine ldI_b (o := 0) hb1 rfl (iteB_dec (fun h => ?_) fun h => ?_)
  · have := hK w1 hc1
    rwa [decide_eq_false (by simp only []; omega)] at this
  refine ldI_b (o := 0) hb1 rfl (iteB_dec (fun h => ?_) fun h => ?_)
  · have := hK w1 hc1
    rwa [decide_eq_false (by simp only []; omega)] at this
  · have := hK w1 hc1
    rwa [decide_eq_true (by simp only []; omega)] at this
set_option maxHeartbeats 1000000 in
theorem rises_ok {s : Slc} {l : List Ky} {w : World} {K : Bool → World → Prop} (hs : RdC w s l) (hl : l.length ≤ 1000000) (hK : ∀ w', Ch [] w w' → K (rises l) w') : c_keys_Rises s w K := by
  refine sim_keys_Rises ?_
  unfold sh_keys_Rises
  have ls := hs.len
  refine loopP_inv (fun st w2 => ∃ i : Nat, st.1 = (i : Int) ∧ i ≤ l.length ∧ Ch [] w w2 ∧ ∀ j, j < i → rQ l j) (fun st _ => l.length - st.1.toNat) ⟨0, rfl, Nat.zero_le _, Ch.refl _ _, fun j h => by omega⟩ ?_
  rintro ⟨i0, u⟩ w2 next ⟨i, rfl, hi, hc2, hp⟩ hnext
  dsimp only
  have bad : ∀ w', Ch [] w w' → i < l.length → ¬ rQ l i → K false w' := fun w' hc hlt hq => by
    have := hK w' hc
    rwa [show rises l = false from decide_eq_false fun g => hq (g i hlt)] at this
  refine iteB_dec (fun h => ?_) (fun h => ?_)
  · have hlt : i < l.length := by omega
    have e : ((l[i].1, l[i].2) : Ky) = kAt l i := by rw [kAt_lt hlt]
    refine (hs.ch0 hc2).idx rfl hlt fun ad b1 b2 => ldI_of b1 (ldI_of b2 ?_)
    refine newIn fun k1 w3 hc3 hb3 hk3 hs3 => ?_
    replace hc3 := hc2.tr hc3
    have dn := Ch.drew w3
    refine ldI_b (o := 0) (hb3.ch0 dn) rfl (ldI_b (o := 1) (hb3.ch0 dn) rfl ?_)
    refine key_ok fun w4 hc4 => ?_
    have hb4 := (hb3.ch0 dn).ch0 hc4
    replace hc4 := (hc3.tr dn).tr hc4
    rw [e]
    refine iteB_ne (fun h0 => bad w4 hc4 hlt fun hq => h0 (by rw [hq.1]; rfl)) (fun h0 => ?_)
    have hk : kOk (kAt l i) = true := by
      cases hk : kOk (kAt l i) with
      | true => rfl
      | false => rw [hk] at h0; simp at h0
    have go : ∀ w', Ch [] w w' → (i ≠ 0 → kLt (kAt l (i - 1)) (kAt l i) = true) → next (IntKind.i64.wrap ((i : Int) + 1), ()) w' := fun w' hc hq => by
      rw [wrap_i64 (by omega)]
      refine hnext _ _ ⟨i + 1, by simp, hlt, hc, fun j hj => ?_⟩ (by simp; omega)
      rcases Nat.lt_or_ge j i with g | g
      · exact hp j g
      · have : j = i := by omega
        subst this
        exact ⟨hk, hq⟩
    refine iteB_dec (fun hpos => ?_) (fun hpos => go w4 hc4 fun h => by omega)
    rw [wrap_i64 (by omega)]
    refine (hs.ch0 hc4).idx (i := i - 1) (by omega) (by omega) fun ad a1 a2 => ldI_of a1 (ldI_of a2 ?_)
    refine ldI_b (o := 0) hb4 rfl (ldI_b (o := 1) hb4 rfl ?_)
    refine compare_ok fun w5 hc5 => ?_
    replace hc5 := hc4.tr hc5
    have e' : ((l[i - 1].1, l[i - 1].2) : Ky) = kAt l (i - 1) := by rw [kAt_lt (by omega)]
    rw [e, e']
    have hcm := cmpK_neg (kAt l (i - 1)) (kAt l i)
    refine iteB_dec (fun hge => bad w5 hc5 hlt fun hq => ?_) (fun hlt2 => go w5 hc5 fun _ => hcm.1 (by omega))
    have := hcm.2 (hq.2 (by omega))
    omega
  · have hie : i = l.length := by omega
    subst hie
    have := hK w2 hc2
    rwa [show rises l = true from decide_eq_true fun j hj => hp j hj] at this
end Go.Proofs.YtlnhecbgjjglfaaDoor
