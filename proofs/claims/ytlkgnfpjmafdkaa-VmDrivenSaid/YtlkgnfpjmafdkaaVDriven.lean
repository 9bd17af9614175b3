/- VDriven: the law VmDriven. -/
import Derived.Test.YtlkgnfpjmafdkaaVmC
set_option linter.unusedVariables false
set_option linter.unusedSimpArgs false
namespace Go.Vm
open Go Go.Lang
theorem step_n {E : En} {m : Mc} (hS : Sound E) (h : Iv E m) (hd : m.dn = false) : (Vm.step E m).n = m.n + 1 := by
  obtain ⟨x, hx, h0, h37, hins, hp, h32, hw⟩ := h.at hS hd
  rw [step_at hx]
  unfold act
  split
  · rfl
  rename_i n0
  split
  · rfl
  rename_i n30
  split
  · rfl
  rename_i n31
  split
  · rfl
  rename_i n36
  split
  · rfl
  · exact (ex_f (E := E) (m := tick m) h0 h37 n0 n30 n31 n36 hp h.out).n
theorem fin_n {E : En} (hS : Sound E) : ∀ {k : Nat} {m : Mc}, Iv E m → m.n ≤ (fin E k m).n
  | 0, m, h => Nat.le_refl _
  | k + 1, m, h => by
    cases hd : m.dn with
    | true => rw [fin_dn hd]; exact Nat.le_refl _
    | false =>
      have e : fin E (k + 1) m = fin E k (Vm.step E m) := by simp only [fin]; rw [if_neg (by simp [hd])]
      rw [e]
      have := fin_n hS (k := k) (h.step hS hd)
      have := step_n hS h hd
      omega
end Go.Vm
namespace Go.Proofs.Ytlkgnfpjmafdkaa
open Go Go.Sh Go.Pl Go.RowKit Go.Lang Go.Vm Go.Gt
theorem Mn.done {S : Nat → Prop} {w : World} {b : Nat} {E : En} {m : Mc} {K : Bool → World → Prop} (h : Mn S w b E m) (hK : K m.dn w) : c_vm_Machine_Done (some ⟨b, 0, none⟩) w K := by
  obtain ⟨q, O, h1, h2⟩ := h
  refine sim_vm_Machine_Done ?_
  unfold sh_vm_Machine_Done
  simp only [nnP_some]
  exact ldB_b (s := m.dn) h1.blk rfl hK
theorem Mn.at_ {S : Nat → Prop} {w : World} {b : Nat} {E : En} {m : Mc} {K : Int → World → Prop} (h : Mn S w b E m) (hK : K m.pc w) : c_vm_Machine_At (some ⟨b, 0, none⟩) w K := by
  obtain ⟨q, O, h1, h2⟩ := h
  refine sim_vm_Machine_At ?_
  unfold sh_vm_Machine_At
  simp only [nnP_some]
  exact ldI_b (n := (m.pc : Int)) h1.blk rfl hK
theorem cells6 {w : World} {k : Nat} {so sp : Slc} {e : Ef} {t : TypeId} (h : Blk w k (efC e so sp) t) : w.cell? ⟨k, 0, none⟩ = some (.bool e.t) ∧ w.cell? ((⟨k, 0, none⟩ : Addr).add 1) = some (.int .i64 e.cd) ∧ w.cell? ((⟨k, 0, none⟩ : Addr).add 2) = some (.int .i64 e.us) ∧ w.cell? ((⟨k, 0, none⟩ : Addr).add 3) = some (.slice so.a so.l so.c) ∧ w.cell? ((⟨k, 0, none⟩ : Addr).add 4) = some (.slice sp.a sp.l sp.c) ∧ w.cell? ((⟨k, 0, none⟩ : Addr).add 5) = some (.int .i64 e.n) ∧ True := by
  refine ⟨?_, ?_, ?_, ?_, ?_, ?_, trivial⟩
  · rw [h.cell]; rfl
  all_goals rw [add_mk, Nat.zero_add, h.cell]; rfl
set_option maxRecDepth 20000 in
set_option maxHeartbeats 4000000 in
theorem law_VmDriven {a b c d : Int} {s sa sr : Slc} {mc : Mo insG} {ma : Mo intsG} {mr : Mo celG} {w : World} (w0 : (Lit.int .i64 a).wf = true) (w1 : (Lit.int .i64 b).wf = true) (w2 : (Lit.int .i64 c).wf = true) (w3 : (Lit.int .i64 d).wf = true)
    (k4 : Gt.Rep reachBytes w insG [.slice s.a s.l s.c] mc) (k5 : Gt.Rep reachBytes w intsG [.slice sa.a sa.l sa.c] ma) (k6 : Gt.Rep reachBytes w celG [.slice sr.a sr.l sr.c] mr) :
    c_preludelaw05_VmDriven a b c d s sa sr w fun r w' => r = true ∧ Chg Nil w w' := by
  refine sim_preludelaw05_VmDriven ?_
  unfold sh_preludelaw05_VmDriven
  have hG := rep_call (a := a) (b := b) (c := c) (d := d) k4 k5 k6
  have ea : a = (callE a b c d mc ma mr).a := rfl
  have eb : b = (callE a b c d mc ma mr).b := rfl
  have ec : c = (callE a b c d mc ma mr).c := rfl
  have ed : d = (callE a b c d mc ma mr).d := rfl
  generalize callE a b c d mc ma mr = E at *
  subst ea eb ec ed
  refine newB fun k1 v1 hc1 hb1 hk1 hs1 => ?_
  refine awake_ok fun v2 hc2 => iteB_neg rfl ?_
  replace hb1 := hb1.ch0 hc2
  replace hc2 := hc1.tr hc2
  refine ldI_b (o := 0) hb1 rfl (ldI_b hb1 rfl (ldI_b hb1 rfl (ldI_b hb1 rfl (ldS_b (s := s) hb1 rfl (ldS_b (s := sa) hb1 rfl (ldS_b (s := sr) hb1 rfl ?_))))))
  refine (hG.ch0 hc2).run fun so sp v4 hE hc4 => ?_
  replace hb1 := hb1.ch0 hc4
  replace hc4 := hc2.tr hc4
  refine newB fun k5 v5 hc5 hb5 hk5 hs5 => ?_
  refine st6n hb5 fun v6 hc6 hb6 hs6 => ?_
  replace hb6 : Blk v6 k5 (efC (runE E) so sp) _ := hb6
  have hc46 : Ch [] v4 v6 := hc5.trN hc6 (by omega)
  replace hE := hE.ch0 hc46
  replace hb1 := hb1.ch0 hc46
  have hc06 := hc4.tr hc46
  clear hb5 hc5 hc6 hs5 hs6 hc2 hc1 hs1 hc46 hc4
  have hl := ef_len E
  refine ldI_b (o := 0) hb1 rfl (ldI_b hb1 rfl (ldI_b hb1 rfl (ldI_b hb1 rfl (ldS_b (s := s) hb1 rfl (ldS_b (s := sa) hb1 rfl (ldS_b (s := sr) hb1 rfl ?_))))))
  have hG6 := hG.ch0 hc06
  refine new_ok hG6.rc hG6.nc hG6.ra hG6.na hG6.rr hG6.nr hG6.big ⟨fun hne v7 hc7 => ?_, fun hS kb v7 hM hc7 => ?_⟩
  · refine iteB_neg (by simp) (iteB_neg (by simpa using hne) (iteB_pos rfl ⟨rfl, hc06.tr hc7⟩))
  rw [newE_s hS]
  refine iteB_neg rfl (iteB_neg rfl (iteB_neg rfl ?_))
  obtain ⟨hI9, hd9⟩ := endOf_ok hS
  have ee := efOf_end hS
  have hn9 : (runE E).n = ((endOf E).n : Int) := by rw [ee]
  have ef9 : efOf (endOf E) = runE E := by rw [ee]; unfold efOf; rw [hd9]; rfl
  have rng := hS.rng
  have hlt5 := hb6.below
  refine loopP_inv (fun st w' => ∃ m : Mc, st.1 = (m.n : Int) ∧ m.n ≤ (endOf E).n ∧ Iv E m ∧ Mn (fun i => v6.heap.size ≤ i) w' kb E m ∧ Chg (fun i => v6.heap.size ≤ i) v6 w' ∧ ∃ k, left E m ≤ k ∧ fin E k m = endOf E) (fun st _ => (endOf E).n - st.1.toNat)
    ⟨mc0 E, rfl, Nat.zero_le _, Iv.init hS, hM, Chg.mono hc7 fun _ _ h => h.elim, 257, left0 hS, rfl⟩ ?_
  rintro ⟨i0, u⟩ w8 next ⟨m, rfl, hmn, hI, hM8, hc8, k, hk, hf⟩ hnext
  dsimp only
  have hb8 : Blk w8 k5 (efC (runE E) so sp) _ := hb6.chg hc8 (by omega)
  have hE8 := hE.chg hc8 fun j hj => .inr hj
  have base : ∀ {w'}, Chg (fun i => v6.heap.size ≤ i) v6 w' → Chg Nil w w' := fun hc => Chg.step (show Chg Nil w v6 from hc06) hc fun i hi h => by have := hc06.size; omega
  have hn0 : m.n ≤ 257 := by have := hI.n; have := hI.pc; split at * <;> omega
  refine ldI_b (o := 5) (n := (runE E).n) hb8 rfl (iteB_dec (fun h => ?_) fun h => ?_)
  · have hd : m.dn = false := by
      cases hd : m.dn with
      | false => rfl
      | true =>
        rw [fin_dn hd] at hf
        rw [hn9, ← hf] at h
        omega
    refine hM8.done ?_
    rw [hd]
    refine iteB_neg rfl ?_
    have e0 : efOf m = ef0 := by unfold efOf; rw [hd]; rfl
    refine hM8.effect hS hI fun so2 sp2 w9 hE2 hc9 => ?_
    rw [e0] at hE2 ⊢
    refine hE2.same (EfM.nil 0 _) (by decide) fun w10 hc10 => ?_
    refine iteB_neg rfl ?_
    have hc810 := hc9.tr hc10
    refine (hM8.ch0 hc810).step hS hI ⟨fun h => (by rw [hd] at h; cases h), fun _ w11 hM11 hc11 => iteB_neg rfl ?_⟩
    have hlt := left_step hS hI hd
    have hsn := step_n hS hI hd
    have hf' : fin E (k - 1) (Vm.step E m) = endOf E := by
      cases k with
      | zero => omega
      | succ k =>
        rw [← hf]
        show fin E k (Vm.step E m) = if m.dn then m else fin E k (Vm.step E m)
        rw [if_neg (by simp [hd])]
    have hle := fin_n hS (k := k - 1) (hI.step hS hd)
    rw [hf'] at hle
    have hz8 := hc8.size
    have hz10 := hc810.size
    rw [wrap_i64 (by omega), show ((m.n : Int) + 1) = ((m.n + 1 : Nat) : Int) by omega, ← hsn]
    refine hnext _ _ ⟨Vm.step E m, rfl, hle, hI.step hS hd, hM11.mono fun i hi => hi.elim id fun h => by omega, hc8.step (Chg.step (S := fun i => v6.heap.size ≤ i) (Chg.mono (show Chg Nil w8 w10 from hc810) fun _ _ h => h.elim) hc11 fun _ _ h => h) fun _ _ h => h, k - 1, by omega, hf'⟩ (by simp; omega)
  · have hd : m.dn = true := by
      cases hd : m.dn with
      | true => rfl
      | false =>
        have hlt := left_step hS hI hd
        have hsn := step_n hS hI hd
        have hle := fin_n hS (k := k - 1) (hI.step hS hd)
        have hf' : fin E (k - 1) (Vm.step E m) = endOf E := by
          cases k with
          | zero => omega
          | succ k =>
            rw [← hf]
            show fin E k (Vm.step E m) = if m.dn then m else fin E k (Vm.step E m)
            rw [if_neg (by simp [hd])]
        rw [hf'] at hle
        rw [hn9] at h
        omega
    rw [fin_dn hd] at hf
    subst hf
    have d1 : Ch [] w8 w8.drew := Ch.drew _
    refine hM8.at_ ?_
    refine (hM8.ch0 d1).done ?_
    rw [hd]
    refine iteB_neg rfl ?_
    refine ld6 (so := so) (sp := sp) (hb8.ch0 d1) ?_
    refine (hM8.ch0 d1).effect hS hI fun so2 sp2 w9 hE2 hc9 => ?_
    rw [ef9] at hE2 ⊢
    have hc89 := d1.tr hc9
    refine ⟨cells6 (hb8.ch0 hc89), ?_⟩
    refine hE2.same (hE8.ch0 hc89) hl fun w10 hc10 => iteB_neg rfl ?_
    have hc810 := hc89.tr hc10
    refine (hM8.ch0 hc810).step hS hI ⟨fun _ => iteB_neg rfl ?_, fun h => (by rw [hd] at h; cases h)⟩
    have d2 : Ch [] w8 w10.drew := hc810.tr (Ch.drew _)
    refine (hM8.ch0 d2).done ?_
    rw [hd]
    refine iteB_pos rfl ?_
    refine (hM8.ch0 d2).at_ ?_
    refine iteB_pos (by simp) ?_
    refine ld6 (so := so) (sp := sp) (hb8.ch0 d2) ?_
    refine (hM8.ch0 d2).effect hS hI fun so3 sp3 w11 hE3 hc11 => ?_
    rw [ef9] at hE3 ⊢
    have hc811 := d2.tr hc11
    refine ⟨cells6 (hb8.ch0 hc811), ?_⟩
    refine hE3.same (hE8.ch0 hc811) hl fun w12 hc12 => ⟨rfl, base (hc8.step (show Chg Nil w8 w12 from hc811.tr hc12) fun _ _ h => h.elim)⟩
end Go.Proofs.Ytlkgnfpjmafdkaa
