/- VAsk: two machines that are one: what is asked of them; a given call written over. -/
import Derived.Test.YtlkgnfpjmafdkaaVApa
import Derived.Test.YtlkgnfpjmafdkaaVrR
set_option linter.unusedVariables false
set_option linter.unusedSimpArgs false
namespace Go.Proofs.Ytlkgnfpjmafdkaa
open Go Go.Sh Go.Pl Go.RowKit Go.Lang Go.Vm Go.Gt
variable {N0 : Nat}
theorem Mn.done {S : Nat → Prop} {w : World} {b : Nat} {E : En} {m : Mc} {K : Bool → World → Prop} (h : Mn S w b E m) (hK : K m.dn w) : c_vm_Machine_Done (some ⟨b, 0, none⟩) w K := by
  obtain ⟨q, O, h1, h2⟩ := h
  refine sim_vm_Machine_Done ?_
  unfold sh_vm_Machine_Done
  simp only [nnP_some]
  exact ldB_b (s := m.dn) h1.blk rfl hK
theorem Mn.at_ {S : Nat → Prop} {w : World} {b : Nat} {E : En} {m : Mc} {K : Int → World → Prop} (h : Mn S w b E m) (hK : K m.pc w) : c_vm_Machine_At (some ⟨b, 0, none⟩) w K := by
  obtain ⟨q, O, h1, h2⟩ := h
  refine sim_vm_Machine_At ?_
  unfold sh_vm_Machine_At
  simp only [nnP_some]
  exact ldI_b (n := (m.pc : Int)) h1.blk rfl hK
theorem Mn.stack {S : Nat → Prop} {w : World} {b : Nat} {E : En} {m : Mc} {K : Slc → World → Prop} (h : Mn S w b E m) (hl : m.st.length ≤ 1000) (hK : ∀ s w', Own w' 2 1 s (Is .i64 m.st.reverse) → Ch [] w w' → Ge w.heap.size (blkOf s) → K s w') : c_vm_Machine_Stack (some ⟨b, 0, none⟩) w K := by
  obtain ⟨q, O, h1, h2⟩ := h
  refine sim_vm_Machine_Stack ?_
  unfold sh_vm_Machine_Stack
  simp only [nnP_some]
  have l := h1.st.rd.len
  simp at l
  exact ldS_b (s := q.ss) h1.blk rfl (clone64_ok h1.st.rdQ (fun hn => h1.st.none0 hn) (by omega) hK)
theorem Mn.locals {S : Nat → Prop} {w : World} {b : Nat} {E : En} {m : Mc} {K : Slc → World → Prop} (h : Mn S w b E m) (hl : m.lo.length ≤ 1000) (hK : ∀ s w', Own w' 2 1 s (Is .i64 m.lo) → Ch [] w w' → Ge w.heap.size (blkOf s) → K s w') : c_vm_Machine_Locals (some ⟨b, 0, none⟩) w K := by
  obtain ⟨q, O, h1, h2⟩ := h
  refine sim_vm_Machine_Locals ?_
  unfold sh_vm_Machine_Locals
  simp only [nnP_some]
  have l := h1.lo.rd.len
  simp at l
  exact ldS_b (s := q.sl) h1.blk rfl (clone64_ok h1.lo.rdQ (fun hn => h1.lo.none0 hn) (by omega) hK)
/-- A given call is written over. -/
theorem spoil_ok {n : Nat} {E : En} {s sa sr : Slc} {a b c d : Int} {w : World} {K : World → Prop} (hn : Gn w E s sa sr) (h3 : New3 n s sa sr) (l1 : s.l ≤ 8800000000000) (l2 : sa.l ≤ 140737488351232) (l3 : sr.l ≤ 140737488351232)
    (hK : ∀ w', Ch [blkOf s, blkOf sa, blkOf sr] w w' → K w') : c_preludelaw05_spoil a b c d s sa sr w K := by
  refine sim_preludelaw05_spoil ?_
  unfold sh_preludelaw05_spoil
  obtain ⟨vs, o1⟩ : ∃ vs, Own w 60 2 s vs := ⟨_, hn.oc.pre' (r := s) rfl rfl (by show s.l ≤ s.l + 1; omega) hn.nc⟩
  obtain ⟨va, o2⟩ : ∃ vs, Own w 2 1 sa vs := ⟨_, hn.oa.pre' (r := sa) rfl rfl (by show sa.l ≤ sa.l + 1; omega) hn.na⟩
  obtain ⟨vr, o3⟩ : ∃ vs, Own w 58 2 sr vs := ⟨_, hn.oR.pre' (r := sr) rfl rfl (by show sr.l ≤ sr.l + 1; omega) hn.nr⟩
  have t1 := o1.lt
  have t2 := o2.lt
  have t3 := o3.lt
  refine newB fun k1 w1 hc1 hb1 hk1 hs1 => ?_
  have f1 : ¬ inL [blkOf s, blkOf sa, blkOf sr] k1 := fun h => by
    rcases h with h | h | h
    · have := t1 _ h.symm; omega
    · have := t2 _ h.symm; omega
    · have := t3 _ (Eq.symm (show some _ = blkOf sr from h)); omega
  refine loopP_inv (fun st w' => ∃ i : Nat, st.1 = (i : Int) ∧ i ≤ s.l ∧ (∃ vs, Own w' 60 2 s vs) ∧ Ch [blkOf s] w1 w') (fun st _ => s.l - st.1.toNat) ⟨0, rfl, Nat.zero_le _, ⟨vs, o1.ch0 hc1⟩, Ch.refl _ _⟩ ?_
  rintro ⟨i0, u⟩ w2 next ⟨i, rfl, hi, ⟨vs2, h1⟩, hc2⟩ hnext
  dsimp only
  have c2L : Ch [blkOf s, blkOf sa, blkOf sr] w1 w2 := hc2.mono fun k _ h => .inl h
  have b2 := hb1.ch c2L f1
  refine ldS_b (s := s) b2 rfl (iteB_dec (fun h => ?_) fun h => ?_)
  · refine ldS_b (s := s) b2 rfl ?_
    rw [wrap_i64 (by omega)]
    exact h1.st2' (x := i) (by omega) rfl fun w3 o hc3 hz3 => hnext _ _ ⟨i + 1, by simp, by omega, ⟨_, o⟩, hc2.tr hc3⟩ (by simp; omega)
  clear hnext h hi
  have o2b := (o2.ch0 hc1).ch hc2 fun k hk hin => h3.d1 k (Eq.symm (show some k = blkOf s from hin)) hk
  refine loopP_inv (fun st w' => ∃ i : Nat, st.1 = (i : Int) ∧ i ≤ sa.l ∧ (∃ vs, Own w' 2 1 sa vs) ∧ Ch [blkOf sa] w2 w') (fun st _ => sa.l - st.1.toNat) ⟨0, rfl, Nat.zero_le _, ⟨va, o2b⟩, Ch.refl _ _⟩ ?_
  rintro ⟨i0, u⟩ w4 next ⟨i, rfl, hi, ⟨vs4, h4⟩, hc4⟩ hnext
  dsimp only
  have c4L : Ch [blkOf s, blkOf sa, blkOf sr] w1 w4 := c2L.tr (hc4.mono fun k _ h => .inr (.inl h))
  have b4 := hb1.ch c4L f1
  refine ldS_b (s := sa) b4 rfl (iteB_dec (fun h => ?_) fun h => ?_)
  · refine ldS_b (s := sa) b4 rfl ?_
    rw [wrap_i64 (by omega)]
    exact h4.st1' (x := i) (by omega) rfl fun w5 o hc5 hz5 => hnext _ _ ⟨i + 1, by simp, by omega, ⟨_, o⟩, hc4.tr hc5⟩ (by simp; omega)
  clear hnext h hi
  have o3b := ((o3.ch0 hc1).ch hc2 fun k hk hin => h3.d2 k (Eq.symm (show some k = blkOf s from hin)) hk).ch hc4 fun k hk hin => h3.d3 k (Eq.symm (show some k = blkOf sa from hin)) hk
  refine loopP_inv (fun st w' => ∃ i : Nat, st.1 = (i : Int) ∧ i ≤ sr.l ∧ (∃ vs, Own w' 58 2 sr vs) ∧ Ch [blkOf sr] w4 w') (fun st _ => sr.l - st.1.toNat) ⟨0, rfl, Nat.zero_le _, ⟨vr, o3b⟩, Ch.refl _ _⟩ ?_
  rintro ⟨i0, u⟩ w6 next ⟨i, rfl, hi, ⟨vs6, h6⟩, hc6⟩ hnext
  dsimp only
  have c6L : Ch [blkOf s, blkOf sa, blkOf sr] w1 w6 := c4L.tr (hc6.mono fun k _ h => .inr (.inr h))
  have b6 := hb1.ch c6L f1
  refine ldS_b (s := sr) b6 rfl (iteB_dec (fun h => ?_) fun h => ?_)
  · refine ldS_b (s := sr) b6 rfl ?_
    rw [wrap_i64 (by omega)]
    exact h6.st2' (x := i) (by omega) rfl fun w7 o hc7 hz7 => hnext _ _ ⟨i + 1, by simp, by omega, ⟨_, o⟩, hc6.tr hc7⟩ (by simp; omega)
  exact hK w6 (Ch.tr' hc1 c6L)
theorem isRd {w : World} {e : TypeId} {s : Slc} {xs : List Int} (h : Own w e 1 s (Is .i64 xs)) : s.l = xs.length := by
  have := h.rd.len
  simpa using this
/-- Two copies of a list: one is written over, and grows; the other one stays. -/
theorem words_ok {w : World} {r1 r2 s0 : Slc} {xs : List Int} {K : Bool → World → Prop} (h1 : Own w 2 1 r1 (Is .i64 xs)) (h2 : Own w 2 1 r2 (Is .i64 xs)) (h0 : Rd w s0 (Is .i64 xs)) (d2 : Dj (blkOf r1) (blkOf r2)) (d0 : Dj (blkOf r1) (blkOf s0)) (hl : xs.length ≤ 1000)
    (hK : ∀ w', Ch [blkOf r1] w w' → K true w') :
    c_preludelaw05_sameWords r1 s0 w fun r25 w26 => iteB (!r25) (K false w26) (c_preludelaw05_sameWords r2 s0 w26 fun r27 w28 => iteB (!r27) (K false w28)
      (loopP (σ := Int × Unit) (fun st30 next29 w31 => (fun (x32 : Int) => iteB (decide ((x32 : Int) < (r1.l : Int)))
        (idxP r1.a r1.l x32 1 fun a33 => stP a33 (.int .i64 (-999)) w31 fun w34 => next29 ((IntKind.i64.wrap (x32 + 1)), ()) w34)
        (newP #[.int .i64 (-998)] 2 w31 fun a35 w36 => apP Try.prog #[25, 25] 25 [.slice r1.a r1.l r1.c, .slice (some a35) 1 1] w36 fun s38 w37 => c_preludelaw05_sameWords r2 s0 w37 fun r39 w40 => iteB r39
          (idxP s38.a s38.l (IntKind.i64.wrap ((s38.l : Int) - 1)) 1 fun a41 => ldI .i64 a41 w40 fun n42 => K ((n42 : Int) == (-998)) w40)
          (K false w40))) st30.1) (0, ()) w28)) := by
  refine sameWords_ok h1.rd h0 (by omega) fun w2 hc2 => ?_
  rw [decide_eq_true rfl]
  refine iteB_neg rfl ?_
  refine sameWords_ok (h2.ch0 hc2).rd (h0.ch0 hc2) (by omega) fun w3 hc3 => ?_
  rw [decide_eq_true rfl]
  refine iteB_neg rfl ?_
  have c03 := hc2.tr hc3
  have l1 := isRd h1
  refine loopP_inv (fun st w' => ∃ (i : Nat) (ys : List Int), st.1 = (i : Int) ∧ i ≤ xs.length ∧ ys.length = xs.length ∧ Own w' 2 1 r1 (Is .i64 ys) ∧ Ch [blkOf r1] w3 w') (fun st _ => xs.length - st.1.toNat) ⟨0, xs, rfl, Nat.zero_le _, rfl, h1.ch0 c03, Ch.refl _ _⟩ ?_
  rintro ⟨i0, u⟩ w4 next ⟨i, ys, rfl, hi, hy, h4, hc4⟩ hnext
  dsimp only
  refine iteB_dec (fun h => ?_) fun h => ?_
  · rw [wrap_i64 (by omega)]
    refine h4.st1' (x := i) (by omega) rfl fun w5 o hc5 hz5 => ?_
    have e3 : (Is .i64 ys).set i (.int .i64 (-999)) = Is .i64 (ys.set i (-999)) := by simp [Is]
    rw [e3] at o
    exact hnext _ _ ⟨i + 1, _, by simp, by omega, by simpa using hy, o, hc4.tr hc5⟩ (by simp; omega)
  · refine apB TI6 (cells := #[.int .i64 (-998)]) rfl (by simp; rfl) h4 (by omega) (by omega) fun s' w5 ho hl' hg => ?_
    have hc5 := hc4.tr hg.ch.1
    have e : Is .i64 ys ++ [.int .i64 (-998)] = Is .i64 (ys ++ [-998]) := by simp [Is]
    replace ho : Own w5 2 1 s' (Is .i64 (ys ++ [-998])) := by rw [← e]; exact ho
    refine sameWords_ok ((h2.ch0 c03).ch hc5 fun k hk hin => d2 k (Eq.symm (show some k = blkOf r1 from hin)) hk).rd ((h0.ch0 c03).ch hc5 fun k hk hin => d0 k (Eq.symm (show some k = blkOf r1 from hin)) hk) (by omega) fun w6 hc6 => ?_
    rw [decide_eq_true rfl]
    refine iteB_pos rfl ?_
    have l' := isRd ho
    rw [List.length_append] at l'
    have hw : IntKind.i64.wrap ((s'.l : Int) - 1) = (ys.length : Int) := by rw [wrap_i64 (by simp at l'; omega)]; simp at l'; omega
    rw [hw]
    refine (ho.ch0 hc6).rd.get (k := .i64) (ds := ys ++ [-998]) (v := -998) (by omega) (by rw [Int.toNat_natCast]; simp) ?_
    exact hK w6 ((Ch.tr' c03 hc5).tr0 hc6)
theorem Mn.cut {S : Nat → Prop} {w : World} {b : Nat} {E : En} {m : Mc} (h : Mn S w b E m) : Mn (fun k => S k ∧ k < w.heap.size) w b E m := by
  obtain ⟨q, O, h1, h2⟩ := h
  refine ⟨q, fun k => if k < w.heap.size then O k else 0, h1.rel fun k hk => if_pos hk, fun k hk => ?_⟩
  dsimp only at hk
  split at hk
  · rename_i hlt; exact ⟨h2 k hk, hlt⟩
  · exact absurd rfl hk
theorem Rn.cut {S : Nat → Prop} {w : World} {b : Nat} {E : En} {m : Mc} (h : Rn N0 S w b E m) : Rn N0 (fun k => S k ∧ k < w.heap.size) w b E m := by
  obtain ⟨q, O, h1, h2⟩ := h
  refine ⟨q, fun k => if k < w.heap.size then O k else 0, h1.rel fun k hk => if_pos hk, fun k hk => ?_⟩
  dsimp only at hk
  split at hk
  · rename_i hlt; exact ⟨h2 k hk, hlt⟩
  · exact absurd rfl hk
/-- A machine and the document's, alike; their blocks are of a set. -/
def Tw (N0 : Nat) (S : Nat → Prop) (w : World) (p p' : Option Addr) : Prop :=
  ∃ b c E m, p = some ⟨b, 0, none⟩ ∧ p' = some ⟨c, 0, none⟩ ∧ Sound E ∧ B64 E ∧ Iv E m ∧ M64 m ∧ N0 ≤ w.heap.size ∧ (∀ k, S k → N0 ≤ k ∧ k < w.heap.size) ∧
    ∃ S1 S2, Mn S1 w b E m ∧ Rn N0 S2 w c E m ∧ (∀ k, S1 k → S k ∧ ¬ S2 k) ∧ (∀ k, S2 k → S k)
theorem Tw.chg {S T : Nat → Prop} {w w' : World} {p p' : Option Addr} (h : Tw N0 S w p p') (hc : Chg T w w') (hT : ∀ k, T k → N0 ≤ k) (hd : ∀ k, S k → ¬ T k) : Tw N0 S w' p p' := by
  obtain ⟨b, c, E, m, e1, e2, hS, hB, hI, h64, hz, hR, S1, S2, hM, hN, h1, h2⟩ := h
  have := hc.size
  exact ⟨b, c, E, m, e1, e2, hS, hB, hI, h64, by omega, fun k hk => ⟨(hR k hk).1, by have := (hR k hk).2; omega⟩, S1, S2, hM.chg hc fun k _ hk => hd k (h1 k hk).1, hN.chg hc hT fun k _ hk => hd k (h2 k hk), h1, h2⟩
theorem Tw.ch0 {S : Nat → Prop} {w w' : World} {p p' : Option Addr} (h : Tw N0 S w p p') (hc : Ch [] w w') : Tw N0 S w' p p' := h.chg hc (fun _ h => h.elim) fun _ _ h => h
theorem Tw.wide {S T : Nat → Prop} {w : World} {p p' : Option Addr} (h : Tw N0 S w p p') (hs : ∀ k, S k → T k) (hT : ∀ k, T k → N0 ≤ k ∧ k < w.heap.size) : Tw N0 T w p p' := by
  obtain ⟨b, c, E, m, e1, e2, hS, hB, hI, h64, hz, hR, S1, S2, hM, hN, h1, h2⟩ := h
  exact ⟨b, c, E, m, e1, e2, hS, hB, hI, h64, hz, hT, S1, S2, hM, hN, fun k hk => ⟨hs k (h1 k hk).1, (h1 k hk).2⟩, fun k hk => hs k (h2 k hk)⟩
theorem ef_len' {E : En} {m : Mc} (hS : Sound E) (hI : Iv E m) : (efOf m).out.length ≤ 16 ∧ (efOf m).pu.length ≤ 16 := by
  have := hS.rng
  have h1 := hI.pu
  have h2 := hI.out
  unfold efOf
  split
  · exact ⟨h2, by simp only []; omega⟩
  · exact ⟨by decide, by decide⟩
/-- What is asked of the two, they answer alike. -/
theorem asked_ok {S : Nat → Prop} {w : World} {p p' : Option Addr} {ask : Int} {K : Bool → World → Prop} (h : Tw N0 S w p p')
    (hK : ∀ w', Tw N0 (fun k => S k ∨ (w.heap.size ≤ k ∧ k < w'.heap.size)) w' p p' → Chg S w w' → K true w') : c_preludelaw05_asked p p' ask w K := by
  refine sim_preludelaw05_asked ?_
  unfold sh_preludelaw05_asked
  have keep : ∀ w', Ch [] w w' → K true w' := fun w' hc => by
    have hz := hc.size
    have hr := h
    obtain ⟨b, c, E, m, e1, e2, hS, hB, hI, h64, hz0, hR, _⟩ := hr
    exact hK w' ((h.ch0 hc).wide (fun k hk => .inl hk) fun k hk => by
      rcases hk with hk | hk
      · have := hR k hk; omega
      · omega) (Chg.mono hc fun _ _ h => h.elim)
  obtain ⟨b, c, E, m, rfl, rfl, hS, hB, hI, h64, hz0, hR, S1, S2, hM, hN, h1, h2⟩ := h
  have d1 : Ch [] w w.drew := Ch.drew _
  have lst : m.st.reverse.length ≤ 1000 := by have := hI.st; rw [List.length_reverse]; omega
  have llo : m.lo.length ≤ 1000 := by have := hI.lo; have := hS.rng; omega
  simp only [nnP_some]
  refine iteB_eq (fun ha => ?_) fun _ => ?_
  · refine hM.step hS hI ⟨fun hd => hN.step hS hI h64 ⟨fun _ => keep w (Ch.refl _ _), fun hd' => by rw [hd] at hd'; cases hd'⟩, fun hd w1 hM1 hc1 => ?_⟩
    have z1 := hc1.size
    have hN1 := hN.chg hc1 (fun k hk => (hR k (h1 k hk).1).1) (fun k _ k2 k1 => (h1 k k1).2 k2)
    refine hN1.step hS hI h64 ⟨fun h => (by rw [hd] at h; cases h), fun _ w2 hN2 hc2 => ?_⟩
    have z2 := hc2.size
    have hM2 := hM1.cut.chg hc2 fun k _ k1 k2 => by
      rcases k1.1 with k1 | k1
      · exact (h1 k k1).2 k2
      · have := hR k (h2 k k2); omega
    refine hK w2 ⟨b, c, E, Vm.step E m, rfl, rfl, hS, hB, hI.step hS hd, step64 hB h64, by omega, fun k hk => ?_, _, _, hM2, hN2.cut, fun k hk => ⟨?_, fun k2 => ?_⟩, fun k hk => ?_⟩ ((hc1.mono fun k _ hk => (h1 k hk).1).step hc2 fun k _ hk => h2 k hk)
    · rcases hk with hk | hk
      · have := hR k hk; omega
      · omega
    · rcases hk.1 with k1 | k1
      · exact .inl (h1 k k1).1
      · exact .inr ⟨k1, by have := hk.2; omega⟩
    · rcases k2.1 with k2 | k2
      · rcases hk.1 with k1 | k1
        · exact (h1 k k1).2 k2
        · have := hR k (h2 k k2); omega
      · have := hk.2; omega
    · rcases hk.1 with k1 | k1
      · exact .inl (h2 k k1)
      · exact .inr ⟨by omega, hk.2⟩
  obtain ⟨q, O, r1, r2⟩ := id hN
  have rb := r1.blk.ch0 d1
  have cell : ∀ {o : Nat} {v : Value} {w' : World}, Ch [] w w' → (rcells E q m)[o]? = some v → w'.cell? ((⟨c, 0, none⟩ : Addr).add o) = some v := fun hc hv => by rw [add_mk, Nat.zero_add, (r1.blk.ch0 hc).cell]; exact hv
  have rst : ∀ {w' : World}, Ch [] w w' → Rd w' q.ss (Is .i64 m.st.reverse) := fun hc => (r1.st.ch0 hc).rd
  have rlo : ∀ {w' : World}, Ch [] w w' → Rd w' q.sl (Is .i64 m.lo) := fun hc => (r1.lo.ch0 hc).rd
  have lss := r1.st.lt
  have lsl := r1.lo.lt
  have zd : w.drew.heap.size = w.heap.size := rfl
  refine iteB_eq (fun ha => ?_) fun _ => ?_
  · refine ldB_b (s := m.dn) rb rfl ?_
    refine (hM.ch0 d1).done ⟨cell d1 rfl, ?_⟩
    rw [beq_self_eq_true]
    exact keep _ d1
  refine iteB_eq (fun ha => ?_) fun _ => ?_
  · refine ldI_b (n := (m.pc : Int)) rb rfl ?_
    refine (hM.ch0 d1).at_ ⟨cell d1 rfl, ?_⟩
    rw [beq_self_eq_true]
    exact keep _ d1
  refine iteB_eq (fun ha => ?_) fun _ => ?_
  · subst ha
    refine ldS_b (s := q.ss) rb rfl ?_
    refine (hM.ch0 d1).stack (by rw [← List.length_reverse]; exact lst) fun a1 w1 o1 hc1 g1 => ⟨cell (d1.tr hc1) rfl, ?_⟩
    refine (hM.ch0 (d1.tr hc1)).stack (by rw [← List.length_reverse]; exact lst) fun a2 w2 o2 hc2 g2 => ⟨cell ((d1.tr hc1).tr hc2) rfl, ?_⟩
    refine iteB_neg rfl ?_
    have lt1 := o1.lt
    refine words_ok (o1.ch0 hc2) o2 (rst ((d1.tr hc1).tr hc2)) (fun k k1 k2 => ?_) (fun k k1 k2 => ?_) lst fun w3 hc3 => keep w3 (((d1.tr hc1).tr hc2).trO hc3 fun k hk => ?_)
    · have := lt1 k k1; have := g2 k k2; omega
    · have := g1 k k1; have := lss k k2; omega
    · have := g1 k hk; omega
  refine iteB_eq (fun ha => ?_) fun _ => ?_
  · subst ha
    refine ldS_b (s := q.ss) rb rfl ?_
    refine (hM.ch0 d1).stack (by rw [← List.length_reverse]; exact lst) fun a1 w1 o1 hc1 g1 => ⟨cell (d1.tr hc1) rfl, ?_⟩
    refine (hM.ch0 (d1.tr hc1)).stack (by rw [← List.length_reverse]; exact lst) fun a2 w2 o2 hc2 g2 => ⟨cell ((d1.tr hc1).tr hc2) rfl, ?_⟩
    refine iteB_pos rfl ?_
    have d2 : Ch [] w w2.drew := ((d1.tr hc1).tr hc2).tr (Ch.drew _)
    have zd2 := d2.size
    refine ldS_b (s := q.sl) (r1.blk.ch0 d2) rfl ?_
    refine (hM.ch0 d2).locals llo fun a3 w3 o3 hc3 g3 => ⟨cell (d2.tr hc3) rfl, ?_⟩
    refine (hM.ch0 (d2.tr hc3)).locals llo fun a4 w4 o4 hc4 g4 => ⟨cell ((d2.tr hc3).tr hc4) rfl, ?_⟩
    have lt1 := o3.lt
    refine words_ok (o3.ch0 hc4) o4 (rlo ((d2.tr hc3).tr hc4)) (fun k k1 k2 => ?_) (fun k k1 k2 => ?_) llo fun w5 hc5 => keep w5 (((d2.tr hc3).tr hc4).trO hc5 fun k hk => ?_)
    · have := lt1 k k1; have := g4 k k2; omega
    · have := g3 k k1; have := lsl k k2; omega
    · have := g3 k hk; omega
  refine iteB_eq (fun ha => ?_) fun _ => keep w (Ch.refl _ _)
  have hl := ef_len' hS hI
  refine hM.effect hS hI fun so sp v1 hE1 hc1 => ?_
  have soLt := hE1.out.lt
  have spLt := hE1.pu.lt
  refine newB fun k2 v2 hc2 hb2 hk2 hs2 => st6n hb2 fun v3 hc3 hb3 hs3 => ?_
  replace hb3 : Blk v3 k2 (efC (efOf m) so sp) _ := hb3
  have c13 : Ch [] v1 v3 := hc2.trN hc3 (by omega)
  have c03 := hc1.tr c13
  refine (hM.ch0 c03).effect hS hI fun ro rp v4 hE2 hc4 => ?_
  refine newB fun k5 v5 hc5 hb5 hk5 hs5 => st6n hb5 fun v6 hc6 hb6 hs6 => ?_
  replace hb6 : Blk v6 k5 (efC (efOf m) ro rp) _ := hb6
  have c46 : Ch [] v4 v6 := hc5.trN hc6 (by omega)
  have c36 := hc4.tr c46
  have c06 := c03.tr c36
  refine (hN.ch0 c06).effect hS hI fun qo qp v7 hE3 hc7 => ?_
  refine newB fun k8 v8 hc8 hb8 hk8 hs8 => st6n hb8 fun v9 hc9 hb9 hs9 => ?_
  replace hb9 : Blk v9 k8 (efC (efOf m) qo qp) _ := hb9
  have c79 : Ch [] v7 v9 := hc8.trN hc9 (by omega)
  have c69 := hc7.tr c79
  have B3 := hb3.ch0 (c36.tr c69)
  have B6 := hb6.ch0 c69
  have E1 := hE1.ch0 ((c13.tr c36).tr c69)
  have E2 := hE2.ch0 (c46.tr c69)
  have E3 := hE3.ch0 c79
  refine ld6 (so := so) (sp := sp) B3 (ld6 (so := qo) (sp := qp) hb9 ?_)
  refine E1.same E3 hl fun v10 hc10 => iteB_pos rfl ?_
  refine ld6 (so := ro) (sp := rp) (B6.ch0 hc10) (ld6 (so := qo) (sp := qp) (hb9.ch0 hc10) ?_)
  refine (E2.ch0 hc10).same (E3.ch0 hc10) hl fun v11 hc11 => iteB_pos rfl ?_
  have c911 := hc10.tr hc11
  refine ld6 (so := so) (sp := sp) (B3.ch0 c911) (ld6 (so := ro) (sp := rp) (B6.ch0 c911) (ld6 (so := qo) (sp := qp) (hb9.ch0 c911) ?_))
  have z13 := c13.size
  have z36 := c36.size
  refine apart_ok (E1.ch0 c911) (E2.ch0 c911) (E3.ch0 c911) hl (fun k hk => ?_) fun v12 hc12 => keep v12 ?_
  · have hkl : k < v1.heap.size := by
      rcases hk with h | h
      · exact soLt k h.symm
      · exact spLt k h.symm
    refine ⟨fun h => ?_, fun h => ?_, fun h => ?_, fun h => ?_⟩
    · have := hE2.go k h; omega
    · have := hE2.gp k h; omega
    · have := hE3.go k h; omega
    · have := hE3.gp k h; omega
  · refine Chg.step (show Chg Nil w v11 from (c06.tr c69).tr c911) hc12 fun i hi hin => ?_
    rcases hin with h | h
    · have := hE1.go i h.symm; omega
    · have := hE1.gp i (Eq.symm (show some i = blkOf sp from h)); omega
end Go.Proofs.Ytlkgnfpjmafdkaa
