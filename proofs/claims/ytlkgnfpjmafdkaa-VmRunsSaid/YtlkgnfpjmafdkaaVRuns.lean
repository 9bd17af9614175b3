/- VRuns: the law VmRuns. -/
import Derived.Test.YtlkgnfpjmafdkaaVApa
import Derived.Test.YtlkgnfpjmafdkaaVrR
set_option linter.unusedVariables false
set_option linter.unusedSimpArgs false
namespace Go.Proofs.Ytlkgnfpjmafdkaa
open Go Go.Sh Go.Pl Go.RowKit Go.Lang Go.Vm Go.Gt
theorem wf64 {n : Int} (h : (Lit.int .i64 n).wf = true) : Vm.I64 n := by
  simp [Lit.wf, IntKind.min, IntKind.max, IntKind.signed, IntKind.bits] at h
  constructor <;> omega
theorem rep_b64 {a b c d : Int} {s sa sr : Slc} {mc : Mo insG} {ma : Mo intsG} {mr : Mo celG} {w : World} (k4 : Gt.Rep reachBytes w insG [.slice s.a s.l s.c] mc) (k5 : Gt.Rep reachBytes w intsG [.slice sa.a sa.l sa.c] ma) (k6 : Gt.Rep reachBytes w celG [.slice sr.a sr.l sr.c] mr) : B64 (callE a b c d mc ma mr) := by
  refine ⟨fun v hv => ?_, fun x hx => ?_, fun x hx => ((rep_code k4).2.1 x hx).2⟩
  · obtain ⟨i, hi⟩ := List.getElem?_of_mem hv
    obtain ⟨s', he, h1, h2, h3, h4, h5⟩ := k5
    obtain ⟨ad, es, g1, g2, g3, g4⟩ := h5 i v hi
    exact wf64 g4.2
  · obtain ⟨i, hi⟩ := List.getElem?_of_mem hx
    obtain ⟨u, hm⟩ := celL_at hi
    obtain ⟨s', he, h1, h2, h3, h4, h5⟩ := k6
    obtain ⟨ad, es, g1, g2, g3, g4⟩ := h5 i (x.1, x.2, u) hm
    obtain ⟨c1, c2, rfl, rfl, c3, c4, rfl, ⟨rfl, q2⟩, rfl⟩ := g4
    exact wf64 q2
theorem ld7 {w : World} {k : Nat} {a b c d : Int} {s sa sr : Slc} {t : TypeId} {K : Int → Int → Int → Int → Slc → Slc → Slc → Prop} (h : Blk w k #[.int .i64 a, .int .i64 b, .int .i64 c, .int .i64 d, .slice s.a s.l s.c, .slice sa.a sa.l sa.c, .slice sr.a sr.l sr.c] t) (hK : K a b c d s sa sr) :
    ldI .i64 ⟨k, 0, none⟩ w fun n1 => ldI .i64 ((⟨k, 0, none⟩ : Addr).add 1) w fun n2 => ldI .i64 ((⟨k, 0, none⟩ : Addr).add 2) w fun n3 => ldI .i64 ((⟨k, 0, none⟩ : Addr).add 3) w fun n4 => ldS ((⟨k, 0, none⟩ : Addr).add 4) w fun s5 => ldS ((⟨k, 0, none⟩ : Addr).add 5) w fun s6 => ldS ((⟨k, 0, none⟩ : Addr).add 6) w fun s7 => K n1 n2 n3 n4 s5 s6 s7 :=
  ldI_b (o := 0) h rfl (ldI_b h rfl (ldI_b h rfl (ldI_b h rfl (ldS_b h rfl (ldS_b h rfl (ldS_b h rfl hK))))))
set_option maxRecDepth 20000 in
set_option maxHeartbeats 4000000 in
theorem law_VmRuns {a b c d : Int} {s sa sr : Slc} {mc : Mo insG} {ma : Mo intsG} {mr : Mo celG} {w : World} (w0 : (Lit.int .i64 a).wf = true) (w1 : (Lit.int .i64 b).wf = true) (w2 : (Lit.int .i64 c).wf = true) (w3 : (Lit.int .i64 d).wf = true)
    (k4 : Gt.Rep reachBytes w insG [.slice s.a s.l s.c] mc) (k5 : Gt.Rep reachBytes w intsG [.slice sa.a sa.l sa.c] ma) (k6 : Gt.Rep reachBytes w celG [.slice sr.a sr.l sr.c] mr) :
    c_preludelaw05_VmRuns a b c d s sa sr w fun r w' => r = true ∧ Chg Nil w w' := by
  refine sim_preludelaw05_VmRuns ?_
  unfold sh_preludelaw05_VmRuns
  have hG := rep_call (a := a) (b := b) (c := c) (d := d) k4 k5 k6
  have hB := rep_b64 (a := a) (b := b) (c := c) (d := d) k4 k5 k6
  have ea : a = (callE a b c d mc ma mr).a := rfl
  have eb : b = (callE a b c d mc ma mr).b := rfl
  have ec : c = (callE a b c d mc ma mr).c := rfl
  have ed : d = (callE a b c d mc ma mr).d := rfl
  generalize callE a b c d mc ma mr = E at *
  subst ea eb ec ed
  have hl := ef_len E
  refine newB fun k1 v1 hc1 hb1 hk1 hs1 => ?_
  refine ld7 hb1 ?_
  refine given_ok (hG.ch0 hc1) fun t ta tR v2 hn hc2 => ?_
  have hb1 := hb1.ch0 hc2
  have c02 := hc1.tr hc2
  refine newB fun k2 v3 hc3 hb3 hk2 hs3 => ?_
  refine stB (o := 0) hb3 (by simp) fun y1 d1 j1 _ => stB j1 (by simp) fun y2 d2 j2 _ => stB j2 (by simp) fun y3 d3 j3 _ => stB j3 (by simp) fun y4 d4 j4 _ => stB j4 (by simp) fun y5 d5 j5 _ => stB j5 (by simp) fun y6 d6 j6 _ => stB j6 (by simp) fun v4 d7 j7 _ => ?_
  replace j7 : Blk v4 k2 #[.int .i64 E.a, .int .i64 E.b, .int .i64 E.c, .int .i64 E.d, .slice t.a t.l t.c, .slice ta.a ta.l ta.c, .slice tR.a tR.l tR.c] _ := j7
  have c24 : Ch [] v2 v4 := hc3.trN ((((((d1.tr d2).tr d3).tr d4).tr d5).tr d6).tr d7) (by omega)
  clear j1 j2 j3 j4 j5 j6 d1 d2 d3 d4 d5 d6 d7 hb3
  refine ld7 j7 ?_
  refine ((hn.ch0 c24).gv hG).run fun so sp v5 hE1 hc5 => ?_
  have soLt := hE1.out.lt
  have spLt := hE1.pu.lt
  refine newB fun k6 v6 hc6 hb6 hk6 hs6 => st6n hb6 fun v7 hc7 hb7 hs7 => ?_
  replace hb7 : Blk v7 k6 (efC (runE E) so sp) _ := hb7
  have c57 : Ch [] v5 v7 := hc6.trN hc7 (by omega)
  have c47 := hc5.tr c57
  refine ld7 (j7.ch0 c47) ?_
  refine ((hn.ch0 (c24.tr c47)).gv hG).run fun ro rp v8 hE2 hc8 => ?_
  have roLt := hE2.out.lt
  have rpLt := hE2.pu.lt
  refine newB fun k9 v9 hc9 hb9 hk9 hs9 => st6n hb9 fun v10 hc10 hb10 hs10 => ?_
  replace hb10 : Blk v10 k9 (efC (runE E) ro rp) _ := hb10
  have c810 : Ch [] v8 v10 := hc9.trN hc10 (by omega)
  have c710 := hc8.tr c810
  have c010 : Ch [] w v10 := ((c02.tr c24).tr c47).tr c710
  refine ld7 (((hb1.ch0 c24).ch0 c47).ch0 c710) ?_
  refine rrun_ok (hG.ch0 c010) hB fun qo qp v11 hE3 hc11 => ?_
  refine newB fun k12 v12 hc12 hb12 hk12 hs12 => st6n hb12 fun v13 hc13 hb13 hs13 => ?_
  replace hb13 : Blk v13 k12 (efC (runE E) qo qp) _ := hb13
  have c1113 : Ch [] v11 v13 := hc12.trN hc13 (by omega)
  have c1013 := hc11.tr c1113
  refine iteB_neg (by simp) ?_
  have B7 := hb7.ch0 (c710.tr c1013)
  have B10 := hb10.ch0 c1013
  have E1 := hE1.ch0 ((c57.tr c710).tr c1013)
  have E2 := hE2.ch0 (c810.tr c1013)
  have E3 := hE3.ch0 c1113
  refine ld6 (so := so) (sp := sp) B7 (ld6 (so := qo) (sp := qp) hb13 ?_)
  refine E1.same E3 hl fun v14 hc14 => iteB_neg rfl ?_
  refine ld6 (so := ro) (sp := rp) (B10.ch0 hc14) (ld6 (so := qo) (sp := qp) (hb13.ch0 hc14) ?_)
  refine (E2.ch0 hc14).same (E3.ch0 hc14) hl fun v15 hc15 => iteB_neg rfl ?_
  have c1315 := hc14.tr hc15
  have J : Ch [] v4 v15 := (c47.tr c710).tr (c1013.tr c1315)
  have N : Ch [] v2 v15 := c24.tr J
  have A : Ch [] w v15 := c02.tr N
  refine ld7 (j7.ch0 J) (ld7 (hb1.ch0 N) ?_)
  refine kept_ok (hn.ch0 N) (hG.ch0 A) fun v16 hc16 => iteB_neg rfl ?_
  have c1316 := c1315.tr hc16
  refine ld6 (so := so) (sp := sp) (B7.ch0 c1316) (ld6 (so := ro) (sp := rp) (B10.ch0 c1316) (ld6 (so := qo) (sp := qp) (hb13.ch0 c1316) ?_))
  have g1 := hE1.go
  have g2 := hE1.gp
  have z57 := c57.size
  have z710 := c710.size
  have z02 := c02.size
  have z24 := c24.size
  refine apart_ok (E1.ch0 c1316) (E2.ch0 c1316) (E3.ch0 c1316) hl (fun k hk => ?_) fun v17 hc17 => iteB_pos rfl ?_
  · have hkl : k < v5.heap.size := by
      rcases hk with h | h
      · exact soLt k h.symm
      · exact spLt k h.symm
    refine ⟨fun h => ?_, fun h => ?_, fun h => ?_, fun h => ?_⟩
    · have := hE2.go k h; omega
    · have := hE2.gp k h; omega
    · have := hE3.go k h; omega
    · have := hE3.gp k h; omega
  have late : ∀ {x : World}, Ch [] x v16 → x.heap.size ≤ v4.heap.size → Ch [] x v17 := fun hx hz => Chg.step (show Chg Nil _ v16 from hx) hc17 fun i hi hin => by
    rcases hin with h | h
    · have := g1 i h.symm; omega
    · have := g2 i (Eq.symm (show some i = blkOf sp from h)); omega
  have J' := late (J.tr hc16) (Nat.le_refl _)
  have N' := late (N.tr hc16) z24
  have A' := late (A.tr hc16) (by omega)
  refine ld7 (j7.ch0 J') (ld7 (hb1.ch0 N') ?_)
  exact kept_ok (hn.ch0 N') (hG.ch0 A') fun v18 hc18 => ⟨rfl, A'.tr hc18⟩
end Go.Proofs.Ytlkgnfpjmafdkaa
