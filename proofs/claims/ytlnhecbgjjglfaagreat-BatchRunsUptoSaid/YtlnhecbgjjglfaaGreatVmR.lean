/- VmR: Effect, Run, sameEffect, awake. -/
import Derived.Test.YtlnhecbgjjglfaaGreatVmU
import Derived.Test.YtlnhecbgjjglfaaGreatGt
import Derived.Laws.StructEq
import Derived.ChangeKeysEq
import Derived.KernelRfl
set_option linter.unusedVariables false
set_option linter.unusedSimpArgs false
namespace Go.Pl
open Go Go.Sh Go.RowKit
theorem loopP_g {σ α : Type} {body : σ → (σ → World → Prop) → World → Prop} {s : σ} {w : World} (I : α → σ → World → Prop) (μ : α → Nat) (a0 : α) (h0 : I a0 s w)
    (hb : ∀ a s w (next : σ → World → Prop), I a s w → (∀ a' s' w', I a' s' w' → μ a' < μ a → next s' w') → body s next w) : loopP body s w := by
  have key : ∀ n a s w, μ a < n → I a s w → itN body n s w := by
    intro n
    induction n with
    | zero => intro a s w h; omega
    | succ n ih =>
      intro a s w hn hI
      exact hb a s w _ hI fun a' s' w' hI' hlt => ih a' s' w' (by omega) hI'
  exact ⟨μ a0 + 1, key _ a0 s w (by omega) h0⟩
theorem st6n {w : World} {b : Nat} {x0 x1 x2 x3 x4 x5 v0 v1 v2 v3 v4 v5 : Value} {t : TypeId} {K : World → Prop} (hb : Blk w b #[x0, x1, x2, x3, x4, x5] t) (h : ∀ w', Ch [some b] w w' → Blk w' b #[v0, v1, v2, v3, v4, v5] t → w'.heap.size = w.heap.size → K w') :
    stP ⟨b, 0, none⟩ v0 w fun w1 => stP ((⟨b, 0, none⟩ : Addr).add 1) v1 w1 fun w2 => stP ((⟨b, 0, none⟩ : Addr).add 2) v2 w2 fun w3 => stP ((⟨b, 0, none⟩ : Addr).add 3) v3 w3 fun w4 => stP ((⟨b, 0, none⟩ : Addr).add 4) v4 w4 fun w5 => stP ((⟨b, 0, none⟩ : Addr).add 5) v5 w5 fun w6 => K w6 := by
  refine stB (o := 0) hb (by simp) fun w1 c1 b1 s1 => ?_
  refine stB b1 (by simp) fun w2 c2 b2 s2 => ?_
  refine stB b2 (by simp) fun w3 c3 b3 s3 => ?_
  refine stB b3 (by simp) fun w4 c4 b4 s4 => ?_
  refine stB b4 (by simp) fun w5 c5 b5 s5 => ?_
  refine stB b5 (by simp) fun w6 c6 b6 s6 => ?_
  exact h w6 (((((c1.tr c2).tr c3).tr c4).tr c5).tr c6) b6 (by omega)
theorem ld6 {w : World} {b : Nat} {t : Bool} {cd us n : Int} {so sp : Slc} {ty : TypeId} {K : Bool → Int → Int → Slc → Slc → Int → Prop} (hb : Blk w b #[.bool t, .int .i64 cd, .int .i64 us, .slice so.a so.l so.c, .slice sp.a sp.l sp.c, .int .i64 n] ty) (hK : K t cd us so sp n) :
    ldB ⟨b, 0, none⟩ w fun t11 => ldI .i64 ((⟨b, 0, none⟩ : Addr).add 1) w fun n12 => ldI .i64 ((⟨b, 0, none⟩ : Addr).add 2) w fun n13 => ldS ((⟨b, 0, none⟩ : Addr).add 3) w fun s14 => ldS ((⟨b, 0, none⟩ : Addr).add 4) w fun s15 => ldI .i64 ((⟨b, 0, none⟩ : Addr).add 5) w fun n16 => K t11 n12 n13 s14 s15 n16 :=
  ldB_b (o := 0) hb rfl (ldI_b hb rfl (ldI_b hb rfl (ldS_b (s := so) hb rfl (ldS_b (s := sp) hb rfl (ldI_b hb rfl hK)))))
end Go.Pl
namespace Go.Proofs.YtlnhecbgjjglfaaGreat
open Go Go.Sh Go.Pl Go.RowKit Go.Lang Go.Vm
theorem arr_of {l : List Value} {j : Nat} {v : Value} (h : l[j]? = some v) : l.toArray[j]? = some v := by rw [List.getElem?_toArray]; exact h
theorem neq_put (x y : Operand) (a b c d : Int) (w : World) :
    (do eqGuard .neq 139 x y (.agg #[.int .i64 a, .int .i64 b]) (.agg #[.int .i64 c, .int .i64 d]); binOp .neq 139 (.agg #[.int .i64 a, .int .i64 b]) (.agg #[.int .i64 c, .int .i64 d])).run Tryz.prog w = .ok (.bool (!(a == c && b == d))) w := by
  have h1 : Tryz.prog.eqGuardType Tryz.prog.depth 139 = false := by kernel_rfl
  have h2 : Tryz.prog.underlying 139 = some (.struct (Tryz.prog.fieldsOf 139)) := by kernel_rfl
  have h3 : Tryz.prog.stoodInHeld 139 = false := by kernel_rfl
  have h4 : (Tryz.prog.fieldsOf 139).toList.map (fun f => (f.name != "_", f.type, f.offset)) = [(true, 3, 0), (true, 2, 1)] := by kernel_rfl
  have p0 : Tryz.prog.plainKey 3 = true := by kernel_rfl
  have p1 : Tryz.prog.plainKey 2 = true := by kernel_rfl
  have u0 : Tryz.prog.underlying 3 = some (.int .i64) := by kernel_rfl
  have u1 : Tryz.prog.underlying 2 = some (.int .i64) := by kernel_rfl
  rw [Sem.run_bind, run_eqGuard_agg _ _ _ _ _ _ _ h1, Result.andThen_ok, run_neq_struct, run_equalIn_agg w 9999 139 _ _ h2 h3]
  generalize (Tryz.prog.fieldsOf 139).toList = fs at h4
  obtain ⟨f0, f1, rfl⟩ : ∃ f0 f1, fs = [f0, f1] := by
    have hl := congrArg List.length h4
    simp at hl
    match fs, hl with
    | [x, y], _ => exact ⟨x, y, rfl⟩
  simp only [List.map_cons, List.map_nil, List.cons.injEq, Prod.mk.injEq, and_true] at h4
  obtain ⟨⟨n0, t0, o0⟩, n1, t1, o1⟩ := h4
  have m0 : f0.name ≠ "_" := by simpa using n0
  have m1 : f1.name ≠ "_" := by simpa using n1
  unfold Op.eqFields
  rw [if_pos m0, t0, o0]
  simp only [Sem.run_bind, run_part_plain (w := w) p0 (show (#[Value.int .i64 a, .int .i64 b] : Array Value)[0]? = some (.int .i64 a) from rfl), run_part_plain (w := w) p0 (show (#[Value.int .i64 c, .int .i64 d] : Array Value)[0]? = some (.int .i64 c) from rfl), Result.andThen_ok, run_equalIn_int w 9998 3 .i64 .i64 a c u0]
  by_cases hac : a = c
  · subst hac
    simp only [beq_self_eq_true, Bool.not_true, Bool.false_eq_true, if_false]
    unfold Op.eqFields
    rw [if_pos m1, t1, o1]
    simp only [Sem.run_bind, run_part_plain (w := w) p1 (show (#[Value.int .i64 a, .int .i64 b] : Array Value)[1]? = some (.int .i64 b) from rfl), run_part_plain (w := w) p1 (show (#[Value.int .i64 a, .int .i64 d] : Array Value)[1]? = some (.int .i64 d) from rfl), Result.andThen_ok, run_equalIn_int w 9998 2 .i64 .i64 b d u1]
    by_cases hbd : b = d
    · subst hbd; simp [Op.eqFields]
    · simp [hbd]
  · simp [hac]
theorem eql_put (x y : Operand) (a b c d : Int) (w : World) :
    (do eqGuard .eql 139 x y (.agg #[.int .i64 a, .int .i64 b]) (.agg #[.int .i64 c, .int .i64 d]); binOp .eql 139 (.agg #[.int .i64 a, .int .i64 b]) (.agg #[.int .i64 c, .int .i64 d])).run Tryz.prog w = .ok (.bool (a == c && b == d)) w := by
  have h1 : Tryz.prog.eqGuardType Tryz.prog.depth 139 = false := by kernel_rfl
  have h2 : Tryz.prog.underlying 139 = some (.struct (Tryz.prog.fieldsOf 139)) := by kernel_rfl
  have h3 : Tryz.prog.stoodInHeld 139 = false := by kernel_rfl
  have h4 : (Tryz.prog.fieldsOf 139).toList.map (fun f => (f.name != "_", f.type, f.offset)) = [(true, 3, 0), (true, 2, 1)] := by kernel_rfl
  have p0 : Tryz.prog.plainKey 3 = true := by kernel_rfl
  have p1 : Tryz.prog.plainKey 2 = true := by kernel_rfl
  have u0 : Tryz.prog.underlying 3 = some (.int .i64) := by kernel_rfl
  have u1 : Tryz.prog.underlying 2 = some (.int .i64) := by kernel_rfl
  rw [Sem.run_bind, run_eqGuard_agg _ _ _ _ _ _ _ h1, Result.andThen_ok, run_eql_struct, run_equalIn_agg w 9999 139 _ _ h2 h3]
  generalize (Tryz.prog.fieldsOf 139).toList = fs at h4
  obtain ⟨f0, f1, rfl⟩ : ∃ f0 f1, fs = [f0, f1] := by
    have hl := congrArg List.length h4
    simp at hl
    match fs, hl with
    | [x, y], _ => exact ⟨x, y, rfl⟩
  simp only [List.map_cons, List.map_nil, List.cons.injEq, Prod.mk.injEq, and_true] at h4
  obtain ⟨⟨n0, t0, o0⟩, n1, t1, o1⟩ := h4
  have m0 : f0.name ≠ "_" := by simpa using n0
  have m1 : f1.name ≠ "_" := by simpa using n1
  unfold Op.eqFields
  rw [if_pos m0, t0, o0]
  simp only [Sem.run_bind, run_part_plain (w := w) p0 (show (#[Value.int .i64 a, .int .i64 b] : Array Value)[0]? = some (.int .i64 a) from rfl), run_part_plain (w := w) p0 (show (#[Value.int .i64 c, .int .i64 d] : Array Value)[0]? = some (.int .i64 c) from rfl), Result.andThen_ok, run_equalIn_int w 9998 3 .i64 .i64 a c u0]
  by_cases hac : a = c
  · subst hac
    simp only [beq_self_eq_true, Bool.not_true, Bool.false_eq_true, if_false]
    unfold Op.eqFields
    rw [if_pos m1, t1, o1]
    simp only [Sem.run_bind, run_part_plain (w := w) p1 (show (#[Value.int .i64 a, .int .i64 b] : Array Value)[1]? = some (.int .i64 b) from rfl), run_part_plain (w := w) p1 (show (#[Value.int .i64 a, .int .i64 d] : Array Value)[1]? = some (.int .i64 d) from rfl), Result.andThen_ok, run_equalIn_int w 9998 2 .i64 .i64 b d u1]
    by_cases hbd : b = d
    · subst hbd; simp [Op.eqFields]
    · simp [hbd]
  · simp [hac]
/-- An effect that was handed out. -/
structure EfM (n : Nat) (w : World) (so sp : Slc) (e : Ef) : Prop where
  out : Own w 2 1 so (Is .i64 e.out)
  pu : Own w 139 2 sp (flat e.pu)
  go : Ge n (blkOf so)
  gp : Ge n (blkOf sp)
  dj : Dj (blkOf so) (blkOf sp)
theorem EfM.ch0 {n : Nat} {w w' : World} {so sp : Slc} {e : Ef} (h : EfM n w so sp e) (hc : Ch [] w w') : EfM n w' so sp e := ⟨h.out.ch0 hc, h.pu.ch0 hc, h.go, h.gp, h.dj⟩
theorem EfM.chg {n : Nat} {w w' : World} {so sp : Slc} {e : Ef} {T : Nat → Prop} (h : EfM n w so sp e) (hc : Chg T w w') (hT : ∀ k, T k → k < n ∨ w.heap.size ≤ k) : EfM n w' so sp e := by
  refine ⟨h.out.chg hc fun k hk hn => ?_, h.pu.chg hc fun k hk hn => ?_, h.go, h.gp, h.dj⟩
  · have h1 := h.go k hk
    have h2 := h.out.lt k hk
    rcases hT k hn with h3 | h3 <;> omega
  · have h1 := h.gp k hk
    have h2 := h.pu.lt k hk
    rcases hT k hn with h3 | h3 <;> omega
theorem EfM.le {n m : Nat} {w : World} {so sp : Slc} {e : Ef} (h : EfM n w so sp e) (hm : m ≤ n) : EfM m w so sp e := ⟨h.out, h.pu, fun k hk => by have := h.go k hk; omega, fun k hk => by have := h.gp k hk; omega, h.dj⟩
theorem EfM.nil (n : Nat) (w : World) : EfM n w ⟨none, 0, 0⟩ ⟨none, 0, 0⟩ ef0 := ⟨Own.nil _ _ _, Own.nil _ _ _, fun k hk => (by cases hk), fun k hk => (by cases hk), fun k hk => (by cases hk)⟩
abbrev efC (e : Ef) (so sp : Slc) : Array Value := #[.bool e.t, .int .i64 e.cd, .int .i64 e.us, .slice so.a so.l so.c, .slice sp.a sp.l sp.c, .int .i64 e.n]
set_option maxRecDepth 4000 in
set_option maxHeartbeats 1000000 in
theorem effect_ok {w : World} {b : Nat} {E : En} {m : Mc} {q : Sl} {O : Nat → Nat} {K : Bool → Int → Int → Slc → Slc → Int → World → Prop} (h : MmX w b E m q O) (ho : m.out.length ≤ 16) (hp : m.pu.length ≤ 16)
    (hK : ∀ so sp w', EfM w.heap.size w' so sp (efOf m) → Ch [] w w' → K (efOf m).t (efOf m).cd (efOf m).us so sp (efOf m).n w') : c_vm_Machine_Effect (some ⟨b, 0, none⟩) w K := by
  refine sim_vm_Machine_Effect ?_
  unfold sh_vm_Machine_Effect
  simp only [nnP_some]
  refine newB fun k1 w1 hc1 hb1 hk1 hs1 => ?_
  have h1 := h.ch0 hc1
  refine ldB_b (s := m.dn) h1.blk rfl ?_
  cases hd : m.dn with
  | false =>
    have e : efOf m = ef0 := by unfold efOf; rw [hd]; rfl
    rw [e] at hK
    refine iteB_pos rfl ?_
    refine st6n hb1 fun w2 hc2 hb2 hs2 => ?_
    refine ld6 (so := ⟨none, 0, 0⟩) (sp := ⟨none, 0, 0⟩) hb2 ?_
    exact hK _ _ w2 (EfM.nil _ _) (hc1.trN hc2 (by omega))
  | true =>
    have e : efOf m = ⟨m.cd == 0, m.cd, m.us, m.out, m.pu, m.n⟩ := by unfold efOf; rw [hd]; rfl
    rw [e] at hK
    refine iteB_neg rfl ?_
    have d1 : Ch [] w1 w1.drew := Ch.drew _
    have h2 := h1.ch0 d1
    have hb2 := hb1.ch0 d1
    have lo : q.so.l = m.out.length := by have := h.ou.rd.len; simpa using this
    have lp : q.sp.l = m.pu.length := by have := h.pu.len; rw [flat_length] at this; omega
    refine ldI_b (n := m.cd) h2.blk rfl (ldI_b (n := m.cd) h2.blk rfl (ldI_b (n := m.us) h2.blk rfl (ldS_b (s := q.so) h2.blk rfl (ldS_b (s := q.sp) h2.blk rfl (ldI_b (n := (m.n : Int)) h2.blk rfl ?_)))))
    refine clone64_ok h2.ou.rdQ (fun hn => h2.ou.none0 hn) (by omega) fun so w3 ho3 hc3 hg3 => ?_
    have h3 := h2.ch0 hc3
    refine ⟨by rw [add_mk, Nat.zero_add, h3.blk.cell]; rfl, by rw [add_mk, Nat.zero_add, h3.blk.cell]; rfl, by rw [add_mk, Nat.zero_add, h3.blk.cell]; rfl, by rw [add_mk, Nat.zero_add, h3.blk.cell]; rfl, by rw [add_mk, Nat.zero_add, h3.blk.cell]; rfl, ?_⟩
    refine cloneP_ok h3.pu.rdQ (fun hn => h3.pu.none0 hn) (by omega) fun sp w4 hp4 hc4 hg4 => ?_
    have h4 := h3.ch0 hc4
    refine ⟨by rw [add_mk, Nat.zero_add, h4.blk.cell]; rfl, by rw [add_mk, Nat.zero_add, h4.blk.cell]; rfl, by rw [add_mk, Nat.zero_add, h4.blk.cell]; rfl, by rw [add_mk, Nat.zero_add, h4.blk.cell]; rfl, ?_⟩
    have hz1 := d1.size
    have hz3 := hc3.size
    have hkb := hb2.below
    refine st6n ((hb2.ch0 hc3).ch0 hc4) fun w5 hc5 hb5 hs5 => ?_
    refine ld6 (so := so) (sp := sp) hb5 ?_
    refine hK so sp w5 ⟨(ho3.ch0 hc4).ch hc5 fun k hk => nin1' (by have := hg3 k hk; omega), hp4.ch hc5 fun k hk => nin1' (by have := hg4 k hk; omega), fun k hk => (by have := hg3 k hk; omega), fun k hk => (by have := hg4 k hk; omega), fun k hk hk' => ?_⟩ ((((hc1.tr d1).tr hc3).tr hc4).trN hc5 (by omega))
    have := ho3.lt k hk
    have := hg4 k hk'
    omega
theorem Mn.effect {S : Nat → Prop} {w : World} {b : Nat} {E : En} {m : Mc} {K : Bool → Int → Int → Slc → Slc → Int → World → Prop} (h : Mn S w b E m) (hS : Sound E) (hI : Iv E m)
    (hK : ∀ so sp w', EfM w.heap.size w' so sp (efOf m) → Ch [] w w' → K (efOf m).t (efOf m).cd (efOf m).us so sp (efOf m).n w') : c_vm_Machine_Effect (some ⟨b, 0, none⟩) w K := by
  obtain ⟨q, O, h1, h2⟩ := h
  have := hS.rng
  have := hI.pu
  exact effect_ok h1 hI.out (by omega) hK
set_option maxRecDepth 4000 in
set_option maxHeartbeats 1000000 in
theorem run_ok {E : En} {s sa sr : Slc} {w : World} {K : Bool → Int → Int → Slc → Slc → Int → Int → World → Prop} (hs : RdC w s E.is) (hsn : s.a = none → s.l = 0 ∧ s.c = 0) (ha : RdQ w 1 sa (Is .i64 E.args)) (han : sa.a = none → sa.l = 0 ∧ sa.c = 0) (hr : RdQ w 2 sr (flatR E.rs)) (hrn : sr.a = none → sr.l = 0 ∧ sr.c = 0) (hl : E.is.length ≤ 8800000000000)
    (hK : ∀ so sp w', EfM w.heap.size w' so sp (runE E) → Ch [] w w' → K (runE E).t (runE E).cd (runE E).us so sp (runE E).n (newE E) w') : c_vm_Run E.a E.b E.c E.d s sa sr w K := by
  refine sim_vm_Run ?_
  unfold sh_vm_Run
  refine newB fun k1 w1 hc1 hb1 hk1 hs1 => ?_
  refine newB fun k3 w3 hc3 hb3 hk3 hs3 => ?_
  have hc03 := hc1.tr hc3
  refine ldPr (s := s) (hb1.ch0 hc3) ?_
  refine vmnew_ok (hs.ch0 hc03) hsn (ha.ch0 hc03) han (hr.ch0 hc03) hrn hl ⟨fun hne w4 hc4 => ?_, fun hS kb w4 hM hc4 => ?_⟩
  · have e : runE E = ef0 := by unfold runE; rw [if_neg hne]
    rw [e] at hK
    refine iteB_pos (by simpa using hne) ?_
    refine st6n (hb3.ch0 hc4) fun w5 hc5 hb5 hs5 => ?_
    refine ld6 (so := ⟨none, 0, 0⟩) (sp := ⟨none, 0, 0⟩) hb5 ?_
    exact hK _ _ w5 (EfM.nil _ _) ((hc03.tr hc4).trN hc5 (by omega))
  · have e0 := newE_s hS
    have e : runE E = efOf (endOf E) := by unfold runE; rw [if_pos e0]
    rw [e, e0] at hK
    refine iteB_neg rfl ?_
    have hk3' := hb3.below
    refine loopP_g (fun (m : Mc) _ w' => Iv E m ∧ Mn (fun i => w3.heap.size ≤ i) w' kb E m ∧ Ch [] w w' ∧ w3.heap.size ≤ w'.heap.size ∧ Blk w' k3 #[.bool false, .int .i64 0, .int .i64 0, .slice none 0 0, .slice none 0 0, .int .i64 0] 56 ∧ ∃ k, left E m ≤ k ∧ fin E k m = endOf E) (fun m => left E m) (mc0 E) ⟨Iv.init hS, hM, hc03.tr hc4, hc4.size, hb3.ch0 hc4, 257, left0 hS, rfl⟩ ?_
    rintro m ⟨⟩ w5 next ⟨hI, hM5, hc5, hz5, hb5, k, hk, hf⟩ hnext
    refine hM5.step hS hI ⟨fun hd => ?_, fun hd w6 hM6 hc6 => ?_⟩
    · refine iteB_neg rfl ?_
      rw [fin_dn hd] at hf
      subst hf
      refine hM5.effect hS hI fun so sp w7 hE hc7 => ?_
      refine st6n (hb5.ch0 hc7) fun w8 hc8 hb8 hs8 => ?_
      refine ld6 (so := so) (sp := sp) hb8 ?_
      refine hK so sp w8 ((hE.le (m := w3.heap.size) hz5).chg hc8 (fun j hj => ?_) |>.le (by have := hc03.size; omega)) ((hc5.tr hc7).trN hc8 (by omega))
      have hj : some j = some k3 := hj
      cases hj
      exact .inl hk3'
    · refine iteB_pos rfl ?_
      have hlt := left_step hS hI hd
      refine hnext (Vm.step E m) () w6 ⟨hI.step hS hd, hM6.mono fun i hi => hi.elim id fun h => by omega, Chg.step hc5 hc6 (fun i hi h => ?_), by have := hc6.size; omega, hb5.chg hc6 (fun h => ?_), k - 1, by omega, ?_⟩ hlt
      · have := hc03.size; omega
      · omega
      · cases k with
        | zero => omega
        | succ k =>
          rw [← hf]
          show fin E k (Vm.step E m) = if m.dn then m else fin E k (Vm.step E m)
          rw [if_neg (by simp [hd])]
end Go.Proofs.YtlnhecbgjjglfaaGreat
