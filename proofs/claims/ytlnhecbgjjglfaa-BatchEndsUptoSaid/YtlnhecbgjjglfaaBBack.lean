/- BBack: the laws BatchBack and BatchOne. -/
import Derived.Test.YtlnhecbgjjglfaaWork
set_option linter.unusedVariables false
set_option linter.unusedSimpArgs false
namespace Go.Pl
open Go Go.Sh Go.RowKit
theorem RdB.sl1 {w : World} {s : Slc} {xs : List Txm} (h : RdB w s xs) {i : Nat} (hi : i < xs.length) {lo hi' : Int} (hlo : lo = (i : Int)) (hhi : hi' = (i : Int) + 1) {K : Option Addr → Nat → Nat → Prop} (hK : ∀ p : Addr, RdB w ⟨some p, 1, s.c - i⟩ [xs[i]] → K (some p) 1 (s.c - i)) : slP s.a s.l s.c (some lo) (some hi') 4 K := by
  subst hlo
  subst hhi
  have hl := h.len
  have hc := h.cap
  obtain ⟨ad, ag, rs, ws, ha, hA⟩ := h.at_ i xs[i] (by simp)
  unfold slP
  simp only [Option.getD_some, Int.toNat_natCast]
  refine ⟨by omega, by omega, by omega, ?_⟩
  have e1 : ((i : Int) + 1).toNat - i = 1 := by omega
  rw [e1, ha, if_neg (by omega)]
  refine hK (ad.add (i * 4)) ⟨rfl, by dsimp only; omega, fun j x hx => ?_⟩
  have : j = 0 := by
    have := (List.getElem?_eq_some_iff.1 hx).1
    simp at this; omega
  subst this
  simp at hx
  subst hx
  exact ⟨_, ag, rs, ws, rfl, by rw [Nat.zero_mul, add_zero']; exact hA⟩
theorem firstT_pl {g : Txm → Int} {xs : List Txm} {i : Nat} (hi : i < xs.length) (h0 : ∀ j (hj : j < i), g (xs[j]'(by omega)) = 0) (h1 : g xs[i] ≠ 0) : firstT g xs 0 = ((i : Int), g xs[i]) := by
  have key : ∀ k, k ≤ i → firstT g xs 0 = firstT g (xs.drop k) k := by
    intro k
    induction k with
    | zero => intro _; rfl
    | succ k ih =>
      intro hk
      rw [ih (by omega), firstT_drop (by omega), if_neg (by rw [h0 k (by omega)]; simp)]
  rw [key i (Nat.le_refl _), firstT_drop hi, if_pos h1]
theorem chk_one (g : Txm → Int) (x : Txm) : chkT g [x] = (0, g x) := by
  unfold chkT
  rw [if_neg (by simp)]
  unfold firstT
  split
  · rfl
  · rename_i h
    have : g x = 0 := by omega
    rw [this]; rfl
end Go.Pl
namespace Go.Proofs.Ytlnhecbgjjglfaa
open Go Go.Sh Go.Pl Go.RowKit Go.Num Go.Gt
theorem numK {e : Int} {w : World} {K : Int → World → Prop} (h : K e w) : c_preludelaw06_num e w K := by
  refine sim_preludelaw06_num ?_
  unfold sh_preludelaw06_num
  exact h
set_option maxRecDepth 20000 in
set_option maxHeartbeats 2000000 in
theorem law_BatchBack {b x : Slc} {mb : Mo batG} {bs : List UInt8} {w : World} (k0 : Gt.Rep reachBytes w batG [.slice b.a b.l b.c] mb) (r1 : Rd w x (U8 bs)) (n1 : x.a = none → x.l = 0 ∧ x.c = 0) (z1 : x.c ≤ reachBytes) : c_preludelaw06_BatchBack b x w fun r w' => r = true ∧ Chg Nil w w' := by
  refine sim_preludelaw06_BatchBack ?_
  unfold sh_preludelaw06_BatchBack
  obtain ⟨hb, big, hbn, hbc⟩ := rep_bat (Nat.le_refl _) k0
  have h64 := rep_bat64 k0
  have hre : reachBytes = 140737488351232 := rfl
  have lb := hb.len
  have cb := hb.cap
  have lx := r1.len
  rw [U8_length] at lx
  have cx := r1.cap
  generalize batOf mb = xs at *
  have ha64 : ∀ x ∈ xs, I64s x.args := fun x hx => (h64 x hx).a
  have hel := encT_len ha64
  have hdk := decB_ok bs
  have hdat := decB_at bs
  refine parts_ok hb big (by omega) (by omega) fun n w1 hc1 hfew hn => ?_
  refine iteB_dec (fun h => ⟨rfl, hc1⟩) (fun h => ?_)
  have few := hfew (by omega)
  refine works_ok fun w2 hc2 => iteB_neg rfl ?_
  replace hc2 := hc1.tr hc2
  refine lent_ok (hb.ch0 hc2) (fun h => (hbn h).1) few fun s3 w3 hl3 hnil hc3 => ?_
  replace hc3 := hc2.tr hc3
  refine benc_ok hl3.rdB ha64 fun s4 w4 ho4 hc4 hg4 hl4 hn4 => numK ?_
  replace hc4 := hc3.tr hc4
  have fin : ∀ w5, Ch [] w w5 → newP #[] 5 w5 fun a20 w21 => apP Try.prog #[50, 50] 50 [.slice (some a20) 0 0, .slice x.a x.l x.c] w21 fun s23 w22 => c_batch_Decode s23 w22 fun r24 r25 r26 w27 => c_preludelaw06_num r26 w27 fun r28 w29 => iteB ((r28 : Int) != 0)
      (iteB (((r24.l : Int) : Int) == 0) (iteB (decide ((r25 : Int) ≥ 0)) ((fun r w' => r = true ∧ Chg Nil w w') (decide ((r25 : Int) ≤ (x.l : Int))) w29) ((fun r w' => r = true ∧ Chg Nil w w') false w29)) ((fun r w' => r = true ∧ Chg Nil w w') false w29))
      (c_batch_Encode r24 w29 fun r30 r31 w32 => c_preludelaw06_num r31 w32 fun r33 w34 => iteB ((r33 : Int) == 0) (c_preludelaw06_sameBytes r30 x w34 fun r35 w36 => (fun r w' => r = true ∧ Chg Nil w w') r35 w36) ((fun r w' => r = true ∧ Chg Nil w w') false w34)) := fun w5 hc5 => by
    refine copyB (r1.ch0 hc5) n1 (by omega) fun s6 w6 ho6 hc6 hg6 => ?_
    refine bdec_ok ho6.rd (by omega) fun s7 ts7 w7 hD7 he7 hc7 => numK ?_
    have hc7' := (hc5.tr hc6).tr hc7
    refine iteB_ne (fun h => ?_) (fun h => ?_)
    · have h0 := decB_nil h
      rw [h0] at he7
      have hts : ts7 = [] := by
        cases ts7 with
        | nil => rfl
        | cons t r => simp at he7
      have hl7 := hD7.len
      rw [hts] at hl7
      refine iteB_pos (by simpa using hl7) ?_
      refine iteB_pos (by simp) ?_
      exact ⟨by rw [decide_eq_true_eq]; omega, hc7'⟩
    · have hr := hD7.rdB
      rw [he7] at hr
      refine benc_ok hr (fun y hy => (hdk.2 y hy).2.a) fun s8 w8 ho8 hc8 hg8 hl8 hn8 => numK ?_
      rw [encT_dec h] at ho8 ⊢
      dsimp only at ho8 ⊢
      refine iteB_pos rfl ?_
      refine lsame_ok ho8.rd (r1.ch0 (hc7'.tr hc8)) (by omega) fun w9 hc9 => ?_
      rw [decide_eq_true rfl]
      exact ⟨rfl, (hc7'.tr hc8).tr hc9⟩
  by_cases he : (encT xs).2 = 0
  · rw [he]
    refine iteB_pos rfl ?_
    obtain ⟨e1, e2, e3⟩ := encT_ok he
    have hdec := decB_enc e2 (fun y hy => ⟨e3 y hy, h64 y hy⟩) []
    rw [List.append_nil, if_pos rfl, ← e1] at hdec
    refine bdec_ok ho4.rd (by omega) fun s5 ts5 w5 hD5 he5 hc5 => numK ?_
    rw [hdec] at he5 ⊢
    dsimp only at he5 ⊢
    refine iteB_neg rfl (iteB_neg rfl ?_)
    have hr := hD5.rdB
    rw [he5] at hr
    refine sameBatch_ok hr (hb.ch0 (hc4.tr hc5)) few.1 few.2 fun w6 hc6 => iteB_neg rfl ?_
    exact fin w6 ((hc4.tr hc5).tr hc6)
  · refine iteB_neg (by simpa using he) ?_
    have h0 : (encT xs).1 = [] := by unfold encT at he ⊢; split; (rename_i hz; rw [if_pos hz] at he; exact absurd rfl he); rfl
    rw [h0] at hl4
    refine iteB_ne (fun h => absurd (by simpa using hl4) h) (fun _ => ?_)
    exact fin w4 hc4
set_option maxRecDepth 20000 in
set_option maxHeartbeats 2000000 in
theorem law_BatchOne {s b : Slc} {ms : Mo libG} {mb : Mo batG} {w : World} (k0 : Gt.Rep reachBytes w libG [.slice s.a s.l s.c] ms) (k1 : Gt.Rep reachBytes w batG [.slice b.a b.l b.c] mb) : c_preludelaw06_BatchOne s b w fun r w' => r = true ∧ Chg Nil w w' := by
  refine sim_preludelaw06_BatchOne ?_
  unfold sh_preludelaw06_BatchOne
  obtain ⟨hL, bigL, hll⟩ := rep_lp (Nat.le_refl _) k0
  obtain ⟨hb, big, hbn, hbc⟩ := rep_bat (Nat.le_refl _) k1
  have hre : reachBytes = 140737488351232 := rfl
  have lb := hb.len
  have cb := hb.cap
  generalize lpOf ms = ps at *
  generalize batOf mb = xs at *
  refine partsL_ok hL bigL hll (by omega) fun n1 w1 hc1 hn1 => ?_
  refine parts_ok (hb.ch0 hc1) big (by omega) hn1 fun n2 w2 hc2 hfew hn2 => ?_
  replace hc2 := hc1.tr hc2
  refine iteB_dec (fun h => ⟨rfl, hc2⟩) (fun h => ?_)
  have few := hfew (by omega)
  have f1 := few.1
  refine works_ok fun w3 hc3 => iteB_neg rfl ?_
  replace hc3 := hc2.tr hc3
  refine lent_ok (hb.ch0 hc3) (fun h => (hbn h).1) few fun s4 w4 hl4 hnil hc4 => ?_
  replace hc4 := hc3.tr hc4
  refine bcheck_ok (hL.ch0 hc4) hl4.rdB fun w5 hc5 => ?_
  replace hc5 := hc4.tr hc5
  refine iteB_dec (fun h64 => ?_) (fun h64 => ?_)
  · have hc : chkT (soundT ps) xs = (0, 60) := by unfold chkT; rw [if_pos (by omega)]
    rw [hc]
    exact iteB_pos rfl (numK ⟨rfl, hc5⟩)
  have hc : chkT (soundT ps) xs = firstT (soundT ps) xs 0 := by unfold chkT; rw [if_neg (by omega)]
  rw [hc]
  refine loopP_inv (fun st w6 => ∃ i : Nat, st.1 = (i : Int) ∧ i ≤ xs.length ∧ Ch [] w w6 ∧ ∀ j (hj : j < xs.length), j < i → soundT ps xs[j] = 0) (fun st _ => xs.length - st.1.toNat) ⟨0, rfl, Nat.zero_le _, hc5, fun j _ h => by omega⟩ ?_
  rintro ⟨i0, u⟩ w6 next ⟨i, rfl, hi, hc6, hz⟩ hnext
  dsimp only
  refine iteB_dec (fun h => ?_) (fun h => ?_)
  · have hlt : i < xs.length := by omega
    refine (hb.ch0 hc6).sl1 hlt rfl (by rw [wrap_i64 (by omega)]) fun p hp => ?_
    refine lent_ok hp (fun h => by cases h) ⟨by simp, fun y hy => by simp at hy; subst hy; exact few.2 _ (List.getElem_mem hlt)⟩ fun s7 w7 hl7 hnil7 hc7 => ?_
    replace hc7 := hc6.tr hc7
    refine bcheck_ok (hL.ch0 hc7) hl7.rdB fun w8 hc8 => ?_
    replace hc8 := hc7.tr hc8
    rw [chk_one]
    refine iteB_neg rfl (numK ?_)
    refine iteB_ne (fun hne => ?_) (fun hne => ?_)
    · have := firstT_pl hlt (fun j hj => hz j (by omega) hj) hne
      rw [this]
      exact iteB_pos (by simp) (numK (numK ⟨by simp, hc8⟩))
    · rw [wrap_i64 (by omega)]
      refine hnext _ _ ⟨i + 1, by simp, hlt, hc8, fun j hj hji => ?_⟩ (by simp; omega)
      rcases Nat.lt_or_ge j i with g | g
      · exact hz j hj g
      · have : j = i := by omega
        subst this; exact hne
  · have hie : i = xs.length := by omega
    subst hie
    have : firstT (soundT ps) xs 0 = (0, 0) := firstT_all fun y hy => by
      obtain ⟨j, hj, rfl⟩ := List.getElem_of_mem hy
      exact hz j hj hj
    rw [this]
    exact iteB_pos rfl (numK ⟨rfl, hc6⟩)
end Go.Proofs.Ytlnhecbgjjglfaa
