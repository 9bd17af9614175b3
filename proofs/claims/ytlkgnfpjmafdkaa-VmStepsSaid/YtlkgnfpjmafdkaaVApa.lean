/- VApa: two effects share nothing. -/
import Derived.Test.YtlkgnfpjmafdkaaVKept
import Derived.Test.YtlkgnfpjmafdkaaKeep
set_option linter.unusedVariables false
set_option linter.unusedSimpArgs false
namespace Go.Pl
open Go Go.Sh Go.RowKit
theorem Own.stc' {w : World} {e : TypeId} {s : Slc} {vs : List Value} {x : Nat} {x' : Int} {v : Value} {K : World → Prop} (h : Own w e 2 s vs) (hx : x < s.l) (hx' : x' = (x : Int))
    (hK : ∀ w', Own w' e 2 s (vs.set (x * 2 + 1) v) → Ch [blkOf s] w w' → w'.heap.size = w.heap.size → K w') : idxP s.a s.l x' 2 fun a => stP (a.add 1) v w K := by
  subst hx'
  rcases h.2 with ⟨hs, hn⟩ | ⟨g, cap, cur, hs, hb, hg, hnc, hcm, hcs, htake⟩
  · omega
  · have hs' := hs
    injection hs with e1 e2 e3
    refine idxP_intro (by omega) (by omega) e1 ?_
    rw [Int.toNat_natCast, Deep.add_add]
    refine stB hg (by omega) fun w' hc hb' hz => hK w' ⟨by rw [List.length_set]; exact h.1, .inr ⟨g, cap, _, hs', hb, hb', hnc, hcm, by simpa using hcs, ?_⟩⟩ (by simpa [blkOf, e1] using hc) hz
    rw [Array.toList_setIfInBounds, List.take_set, htake]
/-- What a slice reads as while another one, that may be the same memory, grows. -/
structure Kpt (w : World) (sz : Nat) (q s : Slc) (us : List Value) : Prop where
  rd : RdQ w sz q us
  at_ : (q.a = s.a ∧ q.l ≤ s.l) ∨ Dj (blkOf q) (blkOf s)
theorem Kpt.grow {w w' : World} {sz : Nat} {q s s' : Slc} {us : List Value} (h : Kpt w sz q s us) (hql : ∀ k, blkOf q = some k → k < w.heap.size) (hg : Gr s w s' w') (hl : s'.l = s.l + 1)
    (hk : ∀ ad, s.a = some ad → ∀ j v, j < s.l * sz → w.cell? (ad.add j) = some v → w'.cell? (ad.add j) = some v) (hn : s'.a = s.a ∨ Ge w.heap.size (blkOf s')) : Kpt w' sz q s' us := by
  obtain ⟨g1, g2⟩ := hg.ch
  rcases h.at_ with ⟨ha, hle⟩ | hd
  · refine ⟨⟨h.rd.len, h.rd.cap, fun j v hv => ?_⟩, ?_⟩
    · obtain ⟨ad, h1, h2⟩ := h.rd.at_ j v hv
      have hj := (List.getElem?_eq_some_iff.1 hv).1
      have := h.rd.len
      have hm : q.l * sz ≤ s.l * sz := Nat.mul_le_mul_right _ hle
      exact ⟨ad, h1, hk ad (by rw [← ha]; exact h1) j v (by omega) h2⟩
    · rcases hn with e | e
      · exact .inl ⟨by rw [ha, e], by omega⟩
      · refine .inr fun k k1 k2 => ?_
        have := hql k k1
        have := e k k2
        omega
  · refine ⟨h.rd.chg g1 fun k hk hin => hd k hk (Eq.symm (show some k = blkOf s from hin)), .inr fun k k1 k2 => ?_⟩
    rcases g2 k k2 with e | e
    · exact hd k k1 e
    · have := hql k k1; omega
theorem Kpt.chg {w w' : World} {L : List (Option Nat)} {sz : Nat} {q s : Slc} {us : List Value} (h : Kpt w sz q s us) (hc : Ch L w w') (hn : ∀ k, blkOf q = some k → ¬ inL L k) : Kpt w' sz q s us := ⟨h.rd.chg hc hn, h.at_⟩
end Go.Pl
namespace Go.Vm
open Go Go.Sh Go.Pl
theorem flat_set1 {cs : List (Int × Int)} {i : Nat} {v : Int} (h : i < cs.length) : (flat cs).set (i * 2 + 1) (.int .i64 v) = flat (cs.set i (cs[i].1, v)) := by
  have e : (flat cs).set (i * 2) (.int .i64 cs[i].1) = flat cs := by
    apply List.ext_getElem?
    intro j
    rw [List.getElem?_set]
    split
    · rename_i hj
      subst hj
      have := (flat_at cs i cs[i] (by simp)).1
      rw [if_pos (by rw [flat_length]; omega), this]
    · rfl
  rw [← flat_set cs i (cs[i].1, v), e]
end Go.Vm
namespace Go.Proofs.Ytlkgnfpjmafdkaa
open Go Go.Sh Go.Pl Go.RowKit Go.Lang Go.Vm Go.Gt
set_option maxRecDepth 8000 in
set_option maxHeartbeats 4000000 in
theorem apart_ok {e : Ef} {nA nB nW : Nat} {so sp ro rp qo qp : Slc} {w : World} {K : Bool → World → Prop} (hA : EfM nA w so sp e) (hB : EfM nB w ro rp e) (hW : EfM nW w qo qp e) (hl : e.out.length ≤ 16 ∧ e.pu.length ≤ 16)
    (hd : ∀ k, (some k = blkOf so ∨ some k = blkOf sp) → blkOf ro ≠ some k ∧ blkOf rp ≠ some k ∧ blkOf qo ≠ some k ∧ blkOf qp ≠ some k)
    (hK : ∀ w', Ch [blkOf so, blkOf sp] w w' → K true w') : c_preludelaw05_apart e.t e.cd e.us so sp e.n e.t e.cd e.us ro rp e.n e.t e.cd e.us qo qp e.n w K := by
  refine sim_preludelaw05_apart ?_
  unfold sh_preludelaw05_apart
  refine newB fun k1 w1 hc1 hb1 hk1 hs1 => newB fun k3 w2 hc2 hb3 hk3 hs2 => newB fun k5 w3 hc3 hb5 hk5 hs3 => ?_
  have hb1 := (hb1.ch0 hc2).ch0 hc3
  have hb3 := hb3.ch0 hc3
  have c03 := (hc1.tr hc2).tr hc3
  have soLt := hA.out.lt
  have spLt := hA.pu.lt
  have los : so.l = e.out.length := by have := hA.out.rd.len; simpa using this
  have lps : sp.l = e.pu.length := by have := hA.pu.len; rw [flat_length] at this; omega
  have out0 := hA.out.ch0 c03
  have pu0 := hA.pu.ch0 c03
  have hdj := hA.dj
  -- what stays: the three blocks, whatever happens to the first effect's memory
  have far : ∀ {k : Nat}, w.heap.size ≤ k → ¬ inL [blkOf so, blkOf sp] k := fun hk hin => by
    rcases hin with h | h
    · have := soLt _ h.symm; omega
    · have := spLt _ (Eq.symm (show some _ = blkOf sp from h)); omega
  refine loopP_inv (fun st w' => ∃ (i : Nat) (xs : List Int), st.1 = (i : Int) ∧ i ≤ e.out.length ∧ xs.length = e.out.length ∧ Own w' 2 1 so (Is .i64 xs) ∧ (∀ j : Nat, j < i → xs[j]? = some (-100 - (j : Int))) ∧ Ch [blkOf so] w3 w') (fun st _ => e.out.length - st.1.toNat)
    ⟨0, e.out, rfl, Nat.zero_le _, rfl, out0, fun j hj => absurd hj (by omega), Ch.refl _ _⟩ ?_
  rintro ⟨i0, u⟩ w4 next ⟨i, xs, rfl, hi, hxl, hox, hxs, hc4⟩ hnext
  dsimp only
  have c1L : Ch [blkOf so, blkOf sp] w3 w4 := hc4.mono fun k _ h => .inl h
  have hb14 := hb1.ch c1L (far (by omega))
  refine ldS_b (s := so) hb14 rfl (iteB_dec (fun h => ?_) fun h => ?_)
  · have hlt : i < xs.length := by omega
    refine ldS_b (s := so) hb14 rfl ?_
    rw [wrap_i64 (by omega), wrap_i64 (by omega)]
    refine hox.st1' (x := i) (by omega) rfl fun w5 ho5 hc5 hz5 => ?_
    have e3 : (Is .i64 xs).set i (.int .i64 (-100 - (i : Int))) = Is .i64 (xs.set i (-100 - (i : Int))) := by simp [Is]
    rw [e3] at ho5
    refine hnext _ _ ⟨i + 1, xs.set i (-100 - (i : Int)), by simp, by omega, by simpa using hxl, ho5, fun j hj => ?_, hc4.tr hc5⟩ (by simp; omega)
    rw [List.getElem?_set]
    split
    · rename_i ej; subst ej; first | rfl | rw [if_pos hlt]
    · exact hxs j (by omega)
  have hie : i = e.out.length := by omega
  subst hie
  clear hnext h hi
  have pu4 := pu0.ch hc4 fun k hk hin => hdj k (Eq.symm (show some k = blkOf so from hin)) hk
  refine loopP_inv (fun st w' => ∃ (i : Nat) (ps : List (Int × Int)), st.1 = (i : Int) ∧ i ≤ e.pu.length ∧ ps.length = e.pu.length ∧ Own w' 71 2 sp (flat ps) ∧ (∀ j : Nat, j < i → ∃ k0, ps[j]? = some (k0, -200 - (j : Int))) ∧ Ch [blkOf sp] w4 w') (fun st _ => e.pu.length - st.1.toNat)
    ⟨0, e.pu, rfl, Nat.zero_le _, rfl, pu4, fun j hj => absurd hj (by omega), Ch.refl _ _⟩ ?_
  rintro ⟨i0, u⟩ w6 next ⟨i, ps, rfl, hi, hpl, hop, hps, hc6⟩ hnext
  dsimp only
  have c2L : Ch [blkOf so, blkOf sp] w3 w6 := c1L.tr (hc6.mono fun k _ h => .inr h)
  have hb16 := hb1.ch c2L (far (by omega))
  refine ldS_b (s := sp) hb16 rfl (iteB_dec (fun h => ?_) fun h => ?_)
  · have hlt : i < ps.length := by omega
    refine ldS_b (s := sp) hb16 rfl ?_
    rw [wrap_i64 (by omega), wrap_i64 (by omega)]
    refine hop.stc' (x := i) (by omega) rfl fun w7 ho7 hc7 hz7 => ?_
    rw [flat_set1 hlt] at ho7
    refine hnext _ _ ⟨i + 1, _, by simp, by omega, by simpa using hpl, ho7, fun j hj => ?_, hc6.tr hc7⟩ (by simp; omega)
    rw [List.getElem?_set]
    split
    · rename_i ej; subst ej; first | exact ⟨_, rfl⟩ | (rw [if_pos hlt]; exact ⟨_, rfl⟩)
    · exact hps j (by omega)
  have hie : i = e.pu.length := by omega
  subst hie
  clear hnext h hi
  have hox6 := hox.ch hc6 fun k hk hin => hdj k hk (Eq.symm (show some k = blkOf sp from hin))
  have d6 : Ch [] w6 w6.drew := Ch.drew _
  have c3L := c2L.tr0 d6
  have hb16d := hb16.ch0 d6
  refine ldS_b (s := so) hb16d rfl (ldS_b (s := sp) hb16d rfl ?_)
  have oz := hox6.ch0 d6
  have pz := hop.ch0 d6
  have z3 := c3L.size
  have z03 := c03.size
  refine loopP_inv (fun st w' => ∃ (n : Nat) (vs : List Int) (us : List (Int × Int)), st.2.2.1 = (n : Int) ∧ n ≤ 40 ∧ vs.length = n ∧ us.length = n ∧ Own w' 2 1 st.1 (Is .i64 (xs ++ vs)) ∧ Own w' 71 2 st.2.1 (flat (ps ++ us)) ∧ Kpt w' 1 so st.1 (Is .i64 xs) ∧ Kpt w' 2 sp st.2.1 (flat ps) ∧
      Fm w3.heap.size (blkOf so) (blkOf st.1) ∧ Fm w3.heap.size (blkOf sp) (blkOf st.2.1) ∧ Dj (blkOf st.1) (blkOf st.2.1) ∧ Ch [blkOf so, blkOf sp] w3 w' ∧ w6.drew.heap.size ≤ w'.heap.size ∧ (∀ k, k < w3.heap.size → w.heap.size ≤ k → blkOf st.1 ≠ some k ∧ blkOf st.2.1 ≠ some k)) (fun st _ => 40 - st.2.2.1.toNat)
    ⟨0, [], [], rfl, by omega, rfl, rfl, by rw [List.append_nil]; exact oz, by rw [List.append_nil]; exact pz, ⟨oz.rdQ, .inl ⟨rfl, Nat.le_refl _⟩⟩, ⟨pz.rdQ, .inl ⟨rfl, Nat.le_refl _⟩⟩, fun k hk => .inl hk, fun k hk => .inl hk, hdj, c3L, Nat.le_refl _, fun k h1 h2 => ⟨fun hk => (by have := soLt k hk; omega), fun hk => (by have := spLt k hk; omega)⟩⟩ ?_
  rintro ⟨sx, sy, n0, u⟩ w8 next ⟨n, vs, us, rfl, hn, hvl, hul, hox, hoy, kx, ky, fx, fy, hxy, hc8, hz8, hfr⟩ hnext
  dsimp only at hox hoy kx ky fx fy hxy hfr ⊢
  have lsx : sx.l = xs.length + vs.length := by have := hox.rd.len; simpa using this
  have lsy : sy.l = ps.length + us.length := by have := hoy.len; rw [flat_length, List.length_append] at this; omega
  have soLt8 : ∀ k, blkOf so = some k → k < w8.heap.size := fun k hk => by have := soLt k hk; omega
  have spLt8 : ∀ k, blkOf sp = some k → k < w8.heap.size := fun k hk => by have := spLt k hk; omega
  refine iteB_dec (fun h => ?_) fun h => ?_
  · refine apB_keep TI6 (cells := #[.int .i64 (-7)]) rfl (by simp; rfl) hox (by omega) (by omega) fun s9 w9 ho9 hl9 hg9 hk9 hn9 => ?_
    obtain ⟨g1, g2⟩ := hg9.ch
    have hz9 := g1.size
    have kx9 := kx.grow soLt8 hg9 hl9 hk9 hn9
    have sxne : ∀ k, blkOf sy = some k → ¬ inL [blkOf sx] k := fun k hk hin => hxy k (Eq.symm (show some k = blkOf sx from hin)) hk
    have spne : ∀ k, blkOf sp = some k → ¬ inL [blkOf sx] k := fun k hk hin => by
      have hin : blkOf sx = some k := Eq.symm (show some k = blkOf sx from hin)
      rcases fx k hin with e | e
      · exact hdj k e hk
      · have := spLt k hk; omega
    have hoy9 := hoy.ch g1 sxne
    have ky9 := ky.chg g1 spne
    refine apB_keep TPu (cells := #[.int .i64 (-7), .int .i64 0]) rfl (by simp; exact ⟨rfl, rfl⟩) hoy9 (by omega) (by omega) fun s10 w10 ho10 hl10 hg10 hk10 hn10 => ?_
    obtain ⟨j1, j2⟩ := hg10.ch
    have ky10 := ky9.grow (fun k hk => by have := spLt8 k hk; omega) hg10 hl10 hk10 hn10
    have s9ne : ∀ k, blkOf s9 = some k → ¬ inL [blkOf sy] k := fun k hk hin => by
      have hin : blkOf sy = some k := Eq.symm (show some k = blkOf sy from hin)
      rcases g2 k hk with e | e
      · exact hxy k e hin
      · have := hoy.lt k hin; omega
    have sone : ∀ k, blkOf so = some k → ¬ inL [blkOf sy] k := fun k hk hin => by
      have hin : blkOf sy = some k := Eq.symm (show some k = blkOf sy from hin)
      rcases fy k hin with e | e
      · exact hdj k hk e
      · have := soLt k hk; omega
    rw [wrap_i64 (by omega)]
    have ex : Is .i64 (xs ++ vs) ++ [.int .i64 (-7)] = Is .i64 (xs ++ (vs ++ [-7])) := by simp [Is]
    have ey : flat (ps ++ us) ++ [.int .i64 (-7), .int .i64 0] = flat (ps ++ (us ++ [(-7, 0)])) := by simp [flat]
    refine hnext _ _ ⟨n + 1, vs ++ [-7], us ++ [(-7, 0)], by simp, by omega, by simp [hvl], by simp [hul], by rw [← ex]; exact ho9.ch j1 s9ne, by rw [← ey]; exact ho10, kx9.chg j1 sone, ky10, fun k hk => ?_, fun k hk => ?_, fun k k1' k2' => ?_, ?_, by have := j1.size; omega, fun k h1 h2 => ⟨fun hk => ?_, fun hk => ?_⟩⟩ (by simp; omega)
    · rcases g2 k hk with e | e
      · exact fx k e
      · right; omega
    · rcases j2 k hk with e | e
      · exact fy k e
      · right; omega
    · rcases j2 k k2' with e | e
      · exact s9ne k k1' (show some k = blkOf sy from e.symm)
      · have := ho9.lt k k1'; omega
    · refine Chg.step (Chg.step hc8 g1 fun i hi hin => ?_) j1 fun i hi hin => ?_
      · rcases fx i (Eq.symm (show some i = blkOf sx from hin)) with e | e
        · exact .inl e.symm
        · omega
      · rcases fy i (Eq.symm (show some i = blkOf sy from hin)) with e | e
        · exact .inr e.symm
        · omega
    · rcases g2 k hk with e | e
      · exact (hfr k h1 h2).1 e
      · omega
    · rcases j2 k hk with e | e
      · exact (hfr k h1 h2).2 e
      · omega
  clear hnext
  have hb18 := hb1.ch hc8 (far (by omega))
  have hb38 := hb3.ch hc8 (far (by omega))
  have hb58 := hb5.ch hc8 (far (by omega))
  have rso : Rd w8 so (Is .i64 xs) := ⟨by rw [Is_length]; omega, kx.rd.cap, fun i hi => by
    obtain ⟨ad, h1, h2⟩ := kx.rd.at_ i _ (List.getElem?_eq_getElem hi)
    exact ⟨ad, h1, by rw [h2, List.getElem?_eq_getElem hi]⟩⟩
  have rsx := hox.rd
  refine loopP_inv (fun st w' => ∃ i : Nat, st.1 = (i : Int) ∧ i ≤ e.out.length ∧ Ch [] w8 w') (fun st _ => e.out.length - st.1.toNat) ⟨0, rfl, Nat.zero_le _, Ch.refl _ _⟩ ?_
  rintro ⟨i0, u⟩ w9 next ⟨i, rfl, hi, hc9⟩ hnext
  dsimp only
  refine ldS_b (s := so) (hb18.ch0 hc9) rfl (iteB_dec (fun h => ?_) fun h => ?_)
  · have hlt : i < xs.length := by omega
    have hcd : Ch [] w8 w9.drew := hc9.tr (Ch.drew _)
    have hv : xs[(Int.toNat (i : Int))]? = some (-100 - (i : Int)) := by rw [Int.toNat_natCast]; exact hxs i (by omega)
    have hv2 : (xs ++ vs)[(Int.toNat (i : Int))]? = some (-100 - (i : Int)) := by rw [Int.toNat_natCast, List.getElem?_append_left hlt]; exact hxs i (by omega)
    refine ldS_b (s := so) (hb18.ch0 hcd) rfl ?_
    refine (rso.ch0 hcd).get (by omega) hv ?_
    rw [wrap_i64 (x := -100 - (i : Int)) (by omega)]
    refine iteB_neg (by simp) ?_
    refine (rsx.ch0 hcd).get (by omega) hv2 ?_
    refine ldS_b (s := so) (hb18.ch0 hcd) rfl ?_
    refine (rso.ch0 hcd).get (by omega) hv ?_
    refine iteB_neg (by simp) ?_
    rw [wrap_i64 (by omega)]
    exact hnext _ _ ⟨i + 1, by simp, by omega, hcd⟩ (by simp; omega)
  clear hnext h hi
  refine loopP_inv (fun st w' => ∃ i : Nat, st.1 = (i : Int) ∧ i ≤ e.pu.length ∧ Ch [] w8 w') (fun st _ => e.pu.length - st.1.toNat) ⟨0, rfl, Nat.zero_le _, hc9⟩ ?_
  rintro ⟨i0, u⟩ w10 next ⟨i, rfl, hi, hc10⟩ hnext
  dsimp only
  refine ldS_b (s := sp) (hb18.ch0 hc10) rfl (iteB_dec (fun h => ?_) fun h => ?_)
  · have hlt : i < ps.length := by omega
    have hcd : Ch [] w8 w10.drew := hc10.tr (Ch.drew _)
    obtain ⟨k0, hv⟩ := hps i (by omega)
    have cell : ∀ {q : Slc} {l : List (Int × Int)} {K : Addr → Prop}, RdQ w10.drew 2 q (flat l) → l[i]? = some (k0, -200 - (i : Int)) → (∀ ad, w10.drew.cell? ad = some (.int .i64 k0) → w10.drew.cell? (ad.add 1) = some (.int .i64 (-200 - (i : Int))) → K ad) → idxP q.a q.l (i : Int) 2 K := fun {q l K} h hv hK => by
      obtain ⟨e1, e2⟩ := flat_at _ _ _ hv
      obtain ⟨ad, ha, c1⟩ := h.at_ _ _ e1
      obtain ⟨ad', ha', c2⟩ := h.at_ _ _ e2
      rw [ha] at ha'; cases ha'
      have hl := h.len
      rw [flat_length] at hl
      have := (List.getElem?_eq_some_iff.1 hv).1
      exact ⟨by omega, by omega, ad, ha, by rw [Int.toNat_natCast]; exact hK _ c1 (by rw [Deep.add_add]; exact c2)⟩
    have kyd := ky.rd.ch0 hcd
    have hyd := (hoy.ch0 hcd).rdQ
    have hv2 : (ps ++ us)[i]? = some (k0, -200 - (i : Int)) := by rw [List.getElem?_append_left hlt]; exact hv
    refine ldS_b (s := sp) (hb18.ch0 hcd) rfl ?_
    refine cell kyd hv fun ad c1 c2 => ldI_of c2 ?_
    rw [wrap_i64 (x := -200 - (i : Int)) (by omega)]
    refine iteB_neg (by simp) ?_
    refine cell hyd hv2 fun ad c1 c2 => ldI_of c1 (ldI_of c2 ?_)
    refine ldS_b (s := sp) (hb18.ch0 hcd) rfl ?_
    refine cell kyd hv fun ad c1 c2 => ldI_of c1 (ldI_of c2 ?_)
    refine ⟨_, w10.drew, neq_put _ _ _ _ _ _ _, iteB_neg (by simp) ?_⟩
    rw [wrap_i64 (by omega)]
    exact hnext _ _ ⟨i + 1, by simp, by omega, hcd⟩ (by simp; omega)
  have safe : ∀ k, (blkOf ro = some k ∨ blkOf rp = some k ∨ blkOf qo = some k ∨ blkOf qp = some k) → ¬ inL [blkOf so, blkOf sp] k := fun k hk hin => by
    have := hd k hin
    rcases hk with e | e | e | e
    · exact this.1 e
    · exact this.2.1 e
    · exact this.2.2.1 e
    · exact this.2.2.2 e
  have B := hB.ch0 c03
  have W := hW.ch0 c03
  have B8 : EfM nB w10 ro rp e := ⟨(B.out.ch hc8 fun k hk => safe k (.inl hk)).ch0 hc10, (B.pu.ch hc8 fun k hk => safe k (.inr (.inl hk))).ch0 hc10, B.go, B.gp, B.dj⟩
  have W8 : EfM nW w10 qo qp e := ⟨(W.out.ch hc8 fun k hk => safe k (.inr (.inr (.inl hk)))).ch0 hc10, (W.pu.ch hc8 fun k hk => safe k (.inr (.inr (.inr hk)))).ch0 hc10, W.go, W.gp, W.dj⟩
  refine ld6 (so := ro) (sp := rp) (hb38.ch0 hc10) (ld6 (so := qo) (sp := qp) (hb58.ch0 hc10) ?_)
  exact B8.same W8 hl fun w11 hc11 => hK w11 ((Ch.tr' c03 hc8).tr0 (hc10.tr hc11))
end Go.Proofs.Ytlkgnfpjmafdkaa
