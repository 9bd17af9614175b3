/- DecRf: the document's Decode. -/
import Derived.Test.YtgpdecfcjpblgaaDoorDec
set_option linter.unusedVariables false
set_option linter.unusedSimpArgs false
namespace Go.Proofs.YtgpdecfcjpblgaaDoor
open Go Go.Sh Go.Pl Go.RowKit Go.Lang Go.Names Go.Num Go.Gt
theorem st5 {w : World} {b : Nat} {x0 x1 x2 x3 x4 v0 v1 v2 v3 v4 : Value} {t : TypeId} {K : World → Prop} (hb : Blk w b #[x0, x1, x2, x3, x4] t) (h : ∀ w', Ch [some b] w w' → Blk w' b #[v0, v1, v2, v3, v4] t → w'.heap.size = w.heap.size → K w') :
    stP ⟨b, 0, none⟩ v0 w fun w1 => stP ((⟨b, 0, none⟩ : Addr).add 1) v1 w1 fun w2 => stP ((⟨b, 0, none⟩ : Addr).add 2) v2 w2 fun w3 => stP ((⟨b, 0, none⟩ : Addr).add 3) v3 w3 fun w4 => stP ((⟨b, 0, none⟩ : Addr).add 4) v4 w4 K := by
  refine stB (o := 0) hb (show 0 < 5 by decide) fun y1 d1 j1 z1 => stB j1 (show 1 < 5 by decide) fun y2 d2 j2 z2 => stB j2 (show 2 < 5 by decide) fun y3 d3 j3 z3 => stB j3 (show 3 < 5 by decide) fun y4 d4 j4 z4 => stB j4 (show 4 < 5 by decide) fun y5 d5 j5 z5 => ?_
  exact h y5 ((((d1.tr d2).tr d3).tr d4).tr d5) j5 (by omega)
set_option maxRecDepth 20000 in
set_option maxHeartbeats 2000000 in
theorem refDecode_ok {x : Slc} {bs : List UInt8} {w : World} {K : Slc → Int → Int → World → Prop} (hx : Rd w x (U8 bs)) (hxn : x.a = none → x.l = 0 ∧ x.c = 0) (hxl : bs ≠ [] → Lt w.heap.size (blkOf x)) (hl : bs.length ≤ 140737488351232)
    (hK : ∀ s css w', OL w.heap.size 43 80 w' s (unT bs).1 css → Ch [] w w' → K s (unT bs).2.1 (unT bs).2.2 w') : c_preluderef03_Decode x w K := by
  refine sim_preluderef03_Decode ?_
  unfold sh_preluderef03_Decode
  refine newB fun br w1 hc1 hb1 hbr hs1 => ?_
  have hsrl : bs ≠ [] → ∀ k, blkOf x = some k → k < br := fun h k hk => by have := hxl h k hk; omega
  have hr1 : Mr w1 br x bs 0 0 := ⟨hb1, hx.ch0 hc1, fun h hk => by have := hsrl h br hk; omega, Nat.zero_le _, by omega⟩
  have hbl := hr1.blk.lt
  have z1 := hc1.size
  have hbr : w.heap.size ≤ br := by omega
  simp only [nnP_some]
  refine mraw_ok hr1 (by omega) fun f w2 hr2 ho2 hc2 hn2 => ?_
  replace hc2 := Ch.of1 hc2
  have z2 := hc2.size
  replace hc2 := hc1.trN hc2 hbr
  unfold unT at hK
  generalize rRaw bs 0 0 4 = F at *
  -- the head
  refine ⟨fun _ w3 => Mr w3 br x bs F.2.1 (hdE F) ∧ Ch [] w w3 ∧ w1.heap.size ≤ w3.heap.size, ?_, ?_⟩
  rotate_left
  · dsimp only
    refine ldI_of hr2.c2 ?_
    unfold hdE
    refine iteB_eq (fun h => ?_) (fun h => ?_)
    · refine ⟨_, w2, to_str TU8.und u8T strT ho2.rd, ?_⟩
      rw [head_eq]
      refine iteB_ndec (fun hne => ?_) (fun heq => ?_)
      · refine hr2.set2 fun w3 hr3 hc3 => ?_
        rw [if_pos ⟨h, hne⟩]
        have hc3' := Ch.of1 hc3
        exact ⟨hr3, hc2.trN hc3' hbr, by have := hc3'.size; omega⟩
      · rw [if_neg (fun hh => hh.2 heq)]
        exact ⟨hr2, hc2, z2⟩
    · rw [if_neg (fun hh => h hh.1)]
      exact ⟨hr2, hc2, z2⟩
  rintro _ w3 ⟨hr3, hc3, hz3⟩
  clear hr2 ho2 hc2 hn2 hr1 hx
  generalize hdE F = e1 at *
  generalize F.2.1 = a1 at *
  refine mupto_ok (most := 64) hr3 fun w4 hr4 hc4 => ?_
  replace hc4 := Ch.of1 hc4
  have z4 := hc4.size
  replace hc4 := hc3.trN hc4 hbr
  have hu := rUpto_most (bs := bs) (at_ := a1) (e := e1) (most := 64)
  unfold unG at hK
  generalize rUpto bs a1 e1 64 = U at *
  rw [wrap_i64 (by omega)]
  have hbr4 : br < w4.heap.size := by omega
  refine ⟨fun s w5 => ∃ css, OL w4.heap.size 43 80 w5 s.1 (libN bs U.1 U.2.1 U.2.2 []).1 css ∧ Mr w5 br x bs (libN bs U.1 U.2.1 U.2.2 []).2.1 (libN bs U.1 U.2.1 U.2.2 []).2.2 ∧ Ch [] w w5, ?_, ?_⟩
  rotate_left
  · refine loopP_inv (fun st w5 => ∃ (i at2 : Nat) (e2 : Int) (ps : List Pc) (css : List Slc), st.2.1 = (i : Int) ∧ i ≤ U.1 ∧ ps.length = i ∧ OL w4.heap.size 43 80 w5 st.1 ps css ∧ Mr w5 br x bs at2 e2 ∧ Ch [] w w5 ∧ w4.heap.size ≤ w5.heap.size ∧ libN bs (U.1 - i) at2 e2 ps = libN bs U.1 U.2.1 U.2.2 []) (fun st _ => U.1 - st.2.1.toNat)
      ⟨0, _, _, [], [], rfl, Nat.zero_le _, rfl, OL.nil _ _ _ _, hr4, hc4, Nat.le_refl _, rfl⟩ ?_
    rintro ⟨sl, i0, u⟩ w5 next ⟨i, at2, e2, ps, css, rfl, hi, hpl, hol, hr5, hc5, hz5, hN⟩ hnext
    dsimp only at hol ⊢
    have stop : (e2 ≠ 0 ∨ i = U.1) → ∃ css, OL w4.heap.size 43 80 w5 sl (libN bs U.1 U.2.1 U.2.2 []).1 css ∧ Mr w5 br x bs (libN bs U.1 U.2.1 U.2.2 []).2.1 (libN bs U.1 U.2.1 U.2.2 []).2.2 ∧ Ch [] w w5 := fun hst => by
      have : libN bs (U.1 - i) at2 e2 ps = (ps, at2, e2) := by
        rcases hst with h | h
        · exact libN_stop h
        · rw [h, Nat.sub_self]; rfl
      rw [← hN, this]
      exact ⟨css, hol, hr5, hc5⟩
    refine iteB_dec (fun h => ?_) (fun h => stop (.inr (by omega)))
    have hlt : i < U.1 := by omega
    refine ldI_of hr5.c2 (iteB_eq (fun h0 => ?_) (fun h0 => stop (.inl h0)))
    subst h0
    rw [show U.1 - i = (U.1 - (i + 1)) + 1 by omega] at hN
    simp only [libN, if_true] at hN
    have below : ∀ k, w4.heap.size ≤ k → ¬ inL [some br] k := fun k hk => nin1 (by omega)
    refine mbytes_ok hr5 (by omega) fun nm w6 hr6 hnm hc6 hnn => ?_
    replace hc6 := Ch.of1 hc6
    have z6 := hc6.size
    replace hol := hol.ch hc6 below
    replace hc6 := hc5.trN hc6 hbr
    generalize rBytes bs at2 0 31 = B at *
    refine refRead_ok hr6 (fun hne k hk => by have := hsrl hne k hk; omega) fun cs w7 hr7 hcs hc7 hcg => ?_
    have z7 := hc7.size
    have hol6 := hol.lt
    have nml := hnm.lt
    replace hnm := hnm.ch hc7 fun k hk => nin1' (by have := hnn k hk; omega)
    replace hol := hol.ch hc7 below
    replace hc7 := hc6.trN hc7 hbr
    have few := rdT_few (bs := bs) (at_ := B.2.1) (e := B.2.2)
    generalize rdT bs B.2.1 B.2.2 = R at *
    have hsl := hol.slen
    have hcsl := hcs.lt
    refine newB fun k8 w8 hc8 hb8 hk8 hs8 => st5 hb8 fun w9 hc9 hb9 hs9 => ?_
    have hc79 : Ch [] w7 w9 := hc8.trN hc9 (by omega)
    replace hc79' := hc7.tr hc79
    refine ⟨_, w9, to_str TU8.und u8T strT (hnm.ch0 hc79).rd, ?_⟩
    refine ldI_b (o := 0) hb9 rfl (ldI_b hb9 rfl (ldI_b hb9 rfl (ldI_b hb9 rfl (ldS_b (s := cs) hb9 rfl ?_))))
    have z79 := hc79.size
    replace hol := hol.ch0 hc79
    refine OL.app (x := ⟨⟨B.1.toArray⟩, R.1⟩) TPc hol (hcs.ch0 hc79) (by simp only []; omega) hcg hol6.1 hol6.2 (by omega) (by omega) (by omega) (by omega) fun s' w10 hol10 hc10 => ?_
    rw [wrap_i64 (by omega)]
    have hr9 := hr7.ch0 hc79
    refine hnext _ _ ⟨i + 1, _, _, _, _, by simp, hlt, by simp [hpl], hol10, hr9.ch hc10 (fun hin => ?_) (fun hne k hk hin => ?_), hc79'.trO hc10 (fun k hk => by have := hol.ns k hk; have := hc4.size; omega), by have := hc10.size; omega, hN⟩ (by simp; omega)
    · have := hol.ns br (show some br = blkOf sl from hin).symm; omega
    · have h1 := hol.ns k (show some k = blkOf sl from hin).symm
      have h2 := hsrl hne k hk; omega
  rintro ⟨s, u⟩ w5 ⟨css, hol, hr5, hc5⟩
  dsimp only at hol ⊢
  generalize libN bs U.1 U.2.1 U.2.2 [] = G at *
  refine mend_ok hr5 fun w6 hd6 => ?_
  have hc6 : Ch [] w5 w6 := hd6.chg Nil
  replace hol := hol.ch0 hc6
  replace hc6 := hc5.tr hc6
  unfold unE at hK
  rw [rdEnd_eq]
  refine iteB_ne (fun h => ?_) (fun h => ?_)
  · rw [if_pos h] at hK
    exact hK _ [] w6 (OL.nil _ _ _ _) hc6
  rw [if_neg (fun hh => hh h)] at hK
  refine refCheck_ok hol.rdL fun w7 hc7 => ?_
  refine iteB_ne (fun h' => ?_) (fun h' => ?_)
  · rw [if_pos h'] at hK
    exact hK _ [] w7 (OL.nil _ _ _ _) (hc6.tr hc7)
  rw [if_neg (fun hh => hh h')] at hK
  have hol7 := hol.ch0 hc7
  refine hK s css w7 ⟨hol7.own, hol7.len, hol7.code, hol7.dj, hol7.sep, fun k hk => by have := hol7.ns k hk; have := hc4.size; omega, fun c hc k hk => by have := hol7.nc c hc k hk; have := hc4.size; omega, hol7.nul⟩ (hc6.tr hc7)
end Go.Proofs.YtgpdecfcjpblgaaDoor
