/- VEnds: the law VmEnds. -/
import Derived.Test.YtlkgnfpjmafdkaaVmC
set_option linter.unusedVariables false
set_option linter.unusedSimpArgs false
namespace Go.Proofs.Ytlkgnfpjmafdkaa
open Go Go.Sh Go.Pl Go.RowKit Go.Lang Go.Vm Go.Gt
set_option maxRecDepth 20000 in
set_option maxHeartbeats 4000000 in
theorem law_VmEnds {a b c d : Int} {s sa sr : Slc} {mc : Mo insG} {ma : Mo intsG} {mr : Mo celG} {w : World} (w0 : (Lit.int .i64 a).wf = true) (w1 : (Lit.int .i64 b).wf = true) (w2 : (Lit.int .i64 c).wf = true) (w3 : (Lit.int .i64 d).wf = true)
    (k4 : Gt.Rep reachBytes w insG [.slice s.a s.l s.c] mc) (k5 : Gt.Rep reachBytes w intsG [.slice sa.a sa.l sa.c] ma) (k6 : Gt.Rep reachBytes w celG [.slice sr.a sr.l sr.c] mr) :
    c_preludelaw05_VmEnds a b c d s sa sr w fun r w' => r = true ∧ Chg Nil w w' := by
  refine sim_preludelaw05_VmEnds ?_
  unfold sh_preludelaw05_VmEnds
  have hG := rep_call (a := a) (b := b) (c := c) (d := d) k4 k5 k6
  have ea : a = (callE a b c d mc ma mr).a := rfl
  have eb : b = (callE a b c d mc ma mr).b := rfl
  have ec : c = (callE a b c d mc ma mr).c := rfl
  have ed : d = (callE a b c d mc ma mr).d := rfl
  generalize callE a b c d mc ma mr = E at *
  subst ea eb ec ed
  refine newB fun k1 v1 hc1 hb1 hk1 hs1 => ?_
  refine awake_ok fun v2 hc2 => iteB_neg rfl ?_
  replace hb1 := hb1.ch0 hc2
  replace hc2 := hc1.tr hc2
  refine ldI_b (o := 0) hb1 rfl (ldI_b hb1 rfl (ldI_b hb1 rfl (ldI_b hb1 rfl (ldS_b (s := s) hb1 rfl ?_))))
  refine longest_ok (hG.ch0 hc2).rc hG.big fun v3 hc3 => ?_
  replace hb1 := hb1.ch0 hc3
  replace hc3 := hc2.tr hc3
  refine ldI_b (o := 0) hb1 rfl (ldI_b hb1 rfl (ldI_b hb1 rfl (ldI_b hb1 rfl (ldS_b (s := s) hb1 rfl (ldS_b (s := sa) hb1 rfl (ldS_b (s := sr) hb1 rfl ?_))))))
  refine (hG.ch0 hc3).run fun so sp v4 hE hc4 => ?_
  refine newB fun k5 v5 hc5 hb5 hk5 hs5 => ?_
  refine st6n hb5 fun v6 hc6 hb6 hs6 => ?_
  have hc46 : Ch [] v4 v6 := hc5.trN hc6 (by omega)
  replace hE := hE.ch0 hc46
  replace hb1 := (hb1.ch0 hc4).ch0 hc46
  have hc06 := (hc3.tr hc4).tr hc46
  clear hb5 hc5 hc6 hs5 hs6 hc2 hc1 hs1
  have hl := ef_len E
  have bad : newE E ≠ 0 → ∀ {w'}, w' = v6 → ldB ⟨k5, 0, none⟩ w' fun t36 => ldI .i64 ((⟨k5, 0, none⟩ : Addr).add 1) w' fun n37 => ldI .i64 ((⟨k5, 0, none⟩ : Addr).add 2) w' fun n38 => ldS ((⟨k5, 0, none⟩ : Addr).add 3) w' fun s39 => ldS ((⟨k5, 0, none⟩ : Addr).add 4) w' fun s40 => ldI .i64 ((⟨k5, 0, none⟩ : Addr).add 5) w' fun n41 => c_preludelaw05_sameEffect t36 n37 n38 s39 s40 n41 false 0 0 ⟨none, 0, 0⟩ ⟨none, 0, 0⟩ 0 w' fun r42 w43 => (fun r w' => r = true ∧ Chg Nil w w') r42 w43 := fun hne w' hw => by
    subst hw
    have e : runE E = ef0 := by unfold runE; rw [if_neg hne]
    refine ld6 (so := so) (sp := sp) hb6 ?_
    rw [e] at hE hl ⊢
    exact hE.same (EfM.nil 0 _) hl fun w' hc => ⟨rfl, hc06.tr hc⟩
  have e2 : (longest E.a E.b E.c E.d E.is).2 = (depths E.a E.b E.c E.d E.is).2 := by
    unfold longest
    split
    · rfl
    · rename_i h; exact (Decidable.not_not.1 h).symm
  refine iteB_ne (fun hne => ?_) (fun heq => ?_)
  · have e : newE E = (longest E.a E.b E.c E.d E.is).2 := by rw [e2] at hne ⊢; unfold newE; rw [if_pos hne]
    refine iteB_pos (by simp [e]) (bad (by rw [e]; exact hne) rfl)
  rw [e2] at heq
  have lA := hG.la
  have lR := hG.lr
  have e50 : ((E.args.length : Int) ≠ E.a ∨ (E.rs.length : Int) ≠ E.b) → newE E = 50 := fun h => by unfold newE; rw [if_neg (fun hn => hn heq), if_pos h]
  refine ldS_b (s := sa) hb1 rfl (ldI_b (o := 0) hb1 rfl ?_)
  refine iteB_ne (fun hne => ?_) (fun ha => ?_)
  · have e := e50 (.inl (by omega))
    refine iteB_pos (by simp [e]) (bad (by rw [e]; decide) rfl)
  refine ldS_b (s := sr) hb1 rfl (ldI_b hb1 rfl ?_)
  refine iteB_ne (fun hne => ?_) (fun hb => ?_)
  · have e := e50 (.inr (by omega))
    refine iteB_pos (by simp [e]) (bad (by rw [e]; decide) rfl)
  have hS : Sound E := ⟨heq, by omega, by omega⟩
  clear bad e50
  rw [newE_s hS]
  refine iteB_neg rfl ?_
  obtain ⟨hI, hd⟩ := endOf_ok hS
  obtain ⟨⟨u, hu, hun⟩, f0, f1⟩ := hI.fin hd
  have rng := hS.rng
  have hpu := hI.pu
  have hout := hI.out
  rw [efOf_end hS] at hE hb6 hl
  have hlg : (longest E.a E.b E.c E.d E.is).1 = u := by rw [longest_eq hS.ok, hu]; rfl
  generalize endOf E = m at *
  have lo : so.l = m.out.length := by have := hE.out.rd.len; simpa using this
  have lp : sp.l = m.pu.length := by have := hE.pu.len; rw [flat_length] at this; dsimp only at this; omega
  refine ldI_b (n := (m.n : Int)) hb6 rfl (iteB_dec (fun h => by omega) fun _ => ?_)
  refine ldI_b (n := (m.n : Int)) hb6 rfl (iteB_dec (fun h => by omega) fun _ => ?_)
  refine ldS_b (s := sp) hb6 rfl (ldI_b hb1 rfl (iteB_ne (fun h => by omega) fun _ => ?_))
  refine ldS_b (s := so) hb6 rfl (iteB_dec (fun h => by omega) fun _ => ?_)
  refine ldB_b (o := 0) (s := m.cd == 0) hb6 rfl (ldI_b (n := m.cd) hb6 rfl (iteB_neg (by simp) ?_))
  refine ldB_b (o := 0) (s := m.cd == 0) hb6 rfl (iteB_eq (fun h0 => ?_) fun h0 => ?_)
  · refine ldI_b (n := m.us) hb6 rfl ⟨by rw [f0 h0]; rfl, hc06⟩
  obtain ⟨g1, g2, g3, g4, g5, g6, g7⟩ := f1 h0
  have hrd := hE.pu.rdC2
  dsimp only at hrd
  refine loopP_inv (fun st v7 => ∃ i : Nat, st.1 = (i : Int) ∧ i ≤ m.pu.length ∧ v7 = v6) (fun st _ => m.pu.length - st.1.toNat) ⟨0, rfl, Nat.zero_le _, rfl⟩ ?_
  rintro ⟨i0, u⟩ v7 next ⟨i, rfl, hi, rfl⟩ hnext
  dsimp only
  refine ldS_b (s := sp) hb6 rfl (iteB_dec (fun h => ?_) fun h => ?_)
  · have hlt : i < m.pu.length := by omega
    refine ldS_b (s := sp) hb6 rfl ?_
    refine hrd.idx rfl hlt fun ad c1 c2 => ldI_of c1 (ldI_of c2 ?_)
    have hall : ∀ p ∈ m.pu, p = (0, 0) := fun p hp => by rw [g4] at hp; exact List.eq_of_mem_replicate hp
    have hz : m.pu[i] = (0, 0) := hall _ (List.getElem_mem _)
    rw [hz]
    refine ⟨_, _, neq_put _ _ _ _ _ _ _, iteB_neg (by rfl) ?_⟩
    rw [wrap_i64 (by omega)]
    exact hnext _ _ ⟨i + 1, by simp, hlt, rfl⟩ (by simp; omega)
  · refine ldS_b (s := so) hb6 rfl (iteB_eq (fun _ => ?_) fun h => ?_)
    · refine ldI_b (n := m.cd) hb6 rfl (iteB_dec (fun _ => ?_) fun h => by omega)
      refine ldI_b (n := m.cd) hb6 rfl (iteB_dec (fun _ => ?_) fun h => by omega)
      refine ldI_b (n := m.us) hb6 rfl (iteB_eq (fun _ => ⟨rfl, hc06⟩) fun h => ?_)
      refine ldI_b (n := m.cd) hb6 rfl ⟨?_, hc06⟩
      have : m.cd = 200 := Decidable.not_not.1 fun hn => h (g7 hn)
      rw [this]; rfl
    · rw [g2] at lo
      simp at lo
      omega
end Go.Proofs.Ytlkgnfpjmafdkaa
