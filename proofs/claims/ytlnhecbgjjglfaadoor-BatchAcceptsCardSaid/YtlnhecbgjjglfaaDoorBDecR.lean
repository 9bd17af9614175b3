/- BDecR: the document's reading of a batch: an error stays. -/
import Derived.Test.YtlnhecbgjjglfaaDoorBDecB
set_option linter.unusedVariables false
set_option linter.unusedSimpArgs false
namespace Go.Pl
open Go Go.Sh Go.RowKit Go.Num
def sSet (bs : List UInt8) (at_ : Nat) (e : Int) (most : Nat) : List Ky × Nat × Int := if e ≠ 0 then ([], at_, e) else rSet bs at_ most
def sTx (bs : List UInt8) (at_ : Nat) (e : Int) : Txm × Nat × Int := if e ≠ 0 then (noTx, at_, e) else rTx bs at_
def sArgs (bs : List UInt8) (n at_ : Nat) (e : Int) : List Int × Nat × Int := if e ≠ 0 then ([], at_, e) else rArgs bs n [] at_
theorem rUpto_stuck {bs : List UInt8} {at_ most : Nat} {e : Int} (h : e ≠ 0) : rUpto bs at_ e most = (0, at_, e) := by unfold rUpto; rw [if_pos h]
/-- A transaction, an error kept: what the document does. -/
def qTx (bs : List UInt8) (at_ : Nat) (e : Int) : Txm × Nat × Int :=
  match rUpto bs at_ e 63 with
  | (p, a1, e1) => match rUpto bs a1 e1 16 with
    | (n, a2, e2) => match sArgs bs n a2 e2 with
      | (ar, a3, e3) => match sSet bs a3 e3 16 with
        | (rs, a4, e4) => match sSet bs a4 e4 16 with
          | (ws, a5, e5) => (⟨(p : Int), ar, rs, ws⟩, a5, e5)
theorem qTx_ok (bs : List UInt8) (at_ : Nat) (e : Int) : (qTx bs at_ e).2 = (sTx bs at_ e).2 ∧ ((sTx bs at_ e).2.2 = 0 → qTx bs at_ e = sTx bs at_ e) := by
  have stuck : ∀ (p : Nat) (x : Nat × Int), x.2 ≠ 0 → (match sArgs bs p x.1 x.2 with
      | (ar, a3, e3) => match sSet bs a3 e3 16 with
        | (rs, a4, e4) => match sSet bs a4 e4 16 with
          | (ws, a5, e5) => ((⟨(p : Int), ar, rs, ws⟩ : Txm), a5, e5)).2 = x := fun p x hx => by
    simp [sArgs, sSet, hx]
  unfold sTx
  by_cases he : e ≠ 0
  · simp only [if_pos he]
    unfold qTx
    simp [rUpto_stuck he, sArgs, sSet, he]
  simp only [if_neg he]
  have he0 : e = 0 := by omega
  subst he0
  unfold qTx rTx
  have h1 := @rUpto_err bs at_ 63 0
  rcases hq : rUpto bs at_ 0 63 with ⟨p, a1, e1⟩
  rw [hq] at h1
  dsimp only at h1 ⊢
  by_cases he1 : e1 ≠ 0
  · rw [if_pos he1, ← h1 he1]
    simp [rUpto_stuck he1, sArgs, sSet, he1]
  rw [if_neg he1]
  have : e1 = 0 := by omega
  subst this
  have h2 := @rUpto_err bs a1 16 0
  rcases hq2 : rUpto bs a1 0 16 with ⟨n, a2, e2⟩
  rw [hq2] at h2
  dsimp only at h2 ⊢
  by_cases he2 : e2 ≠ 0
  · rw [if_pos he2, ← h2 he2]
    simp [sArgs, sSet, he2]
  rw [if_neg he2]
  have : e2 = 0 := by omega
  subst this
  have e3 : sArgs bs n a2 0 = rArgs bs n [] a2 := by unfold sArgs; rw [if_neg (by simp)]
  rw [e3]
  rcases rArgs bs n [] a2 with ⟨ar, a3, e3⟩
  dsimp only
  by_cases he3 : e3 ≠ 0
  · rw [if_pos he3]; simp [sSet, he3]
  rw [if_neg he3]
  have : e3 = 0 := by omega
  subst this
  have e4 : ∀ a, sSet bs a 0 16 = rSet bs a 16 := fun a => by unfold sSet; rw [if_neg (by simp)]
  rw [e4]
  rcases rSet bs a3 16 with ⟨rs, a4, e4'⟩
  dsimp only
  by_cases he4 : e4' ≠ 0
  · rw [if_pos he4]; simp [sSet, he4]
  rw [if_neg he4]
  have : e4' = 0 := by omega
  subst this
  rw [e4]
  rcases rSet bs a4 16 with ⟨ws, a5, e5⟩
  dsimp only
  by_cases he5 : e5 ≠ 0
  · rw [if_pos he5]; simp [he5]
  rw [if_neg he5]
  have : e5 = 0 := by omega
  subst this
  simp
end Go.Pl
namespace Go.Proofs.YtlnhecbgjjglfaaDoor
open Go Go.Sh Go.Pl Go.RowKit Go.Num
/-- The document's Reader, all of it below a bound. -/
structure MB (n : Nat) (w : World) (b : Nat) (s : Slc) (bs : List UInt8) (at_ : Nat) (e : Int) : Prop where
  mr : Mr w b s bs at_ e
  bn : b < n
  sn : bs ≠ [] → Lt n (blkOf s)
  nw : n ≤ w.heap.size
section
variable {n : Nat} {w w' : World} {b : Nat} {s : Slc} {bs : List UInt8} {at_ : Nat} {e : Int}
theorem MB.ch0 (h : MB n w b s bs at_ e) (hc : Ch [] w w') : MB n w' b s bs at_ e := ⟨h.mr.nil hc, h.bn, h.sn, Nat.le_trans h.nw hc.size⟩
theorem MB.chO {o : Option Nat} (h : MB n w b s bs at_ e) (hc : Ch [o] w w') (ho : Ge n o) : MB n w' b s bs at_ e :=
  ⟨h.mr.chgE hc (fun hin => by have := ho b (show some b = o from hin).symm; have := h.bn; omega) (fun hne k hk hin => by have := ho k (show some k = o from hin).symm; have := h.sn hne k hk; omega), h.bn, h.sn, Nat.le_trans h.nw hc.size⟩
theorem MB.moved {at2 : Nat} {e2 : Int} (h : MB n w b s bs at_ e) (hr : Mr w' b s bs at2 e2) (hc : Ch [some b] w w') : MB n w' b s bs at2 e2 := ⟨hr, h.bn, h.sn, Nat.le_trans h.nw hc.size⟩
set_option maxHeartbeats 2000000 in
set_option maxRecDepth 20000 in
theorem rbset_ok {most : Nat} {K : Slc → World → Prop} (h : MB n w b s bs at_ e) (hm : most ≤ 1000)
    (hK : ∀ l ks w', MB n w' b s bs (sSet bs at_ e most).2.1 (sSet bs at_ e most).2.2 → ((sSet bs at_ e most).2.2 = 0 → ks = (sSet bs at_ e most).1) → Ch [some b] w w' → Own w' 100 2 l (flat ks) → Ge w.heap.size (blkOf l) → K l w') : c_preluderef06_keys (some ⟨b, 0, none⟩) (most : Int) w K := by
  refine sim_preluderef06_keys ?_
  unfold sh_preluderef06_keys
  have z := h.nw
  have zb := h.bn
  refine mupto_ok h.mr fun w1 hr1 hc1 => ?_
  have hc1' : Ch [some b] w w1 := Ch.of1 hc1
  have h1 := h.moved hr1 hc1'
  have hle := @rUpto_le bs at_ most e
  have herr := @rUpto_err bs at_ most e
  -- where the error was there before, or came up at once
  by_cases he1 : (rUpto bs at_ e most).2.2 ≠ 0
  · have hn0 : (rUpto bs at_ e most).1 = 0 := by
      unfold rUpto at he1 ⊢
      split
      · rfl
      · rename_i h0
        rw [if_neg h0] at he1
        rcases hd : dnum 0 0 (bs.drop at_) with ⟨n, k, d⟩
        rw [hd] at he1
        simp only at he1 ⊢
        split
        · rfl
        · rename_i h2
          rw [if_neg h2] at he1
          split
          · rfl
          · rename_i h3; rw [if_neg h3] at he1; exact absurd rfl he1
    have hs : (sSet bs at_ e most).2 = ((rUpto bs at_ e most).2.1, (rUpto bs at_ e most).2.2) := by
      unfold sSet rSet
      by_cases he : e ≠ 0
      · rw [if_pos he, rUpto_stuck he]
      · have : e = 0 := by omega
        subst this
        rw [if_neg he, if_pos he1, herr he1]
    rw [hn0]
    have hs1 : (sSet bs at_ e most).2.1 = (rUpto bs at_ e most).2.1 := by rw [hs]
    have hs2 : (sSet bs at_ e most).2.2 = (rUpto bs at_ e most).2.2 := by rw [hs]
    refine loopP_inv (fun st w3 => st = (⟨none, 0, 0⟩, 0, ()) ∧ w3 = w1) (fun _ _ => 0) ⟨rfl, rfl⟩ ?_
    rintro _ w3 next ⟨rfl, rfl⟩ _
    dsimp only
    refine iteB_neg (by simp) ?_
    exact hK ⟨none, 0, 0⟩ [] w3 (by rw [hs1, hs2]; exact h1) (fun h0 => absurd (hs2 ▸ h0) he1) hc1' (Own.nil _ _ _) (fun k hk => by cases hk)
  have he0 : e = 0 := by
    rcases Decidable.em (e = 0) with h0 | h0
    · exact h0
    · rw [rUpto_stuck h0] at he1; exact absurd h0 he1
  subst he0
  have hs : sSet bs at_ 0 most = rKeys bs (rUpto bs at_ 0 most).1 [] (rUpto bs at_ 0 most).2.1 := by
    unfold sSet rSet
    rw [if_neg (by simp), if_neg he1]
  rw [hs] at hK
  have he1' : (rUpto bs at_ 0 most).2.2 = 0 := by omega
  rw [he1'] at h1
  generalize (rUpto bs at_ 0 most).1 = N at *
  generalize (rUpto bs at_ 0 most).2.1 = at0 at *
  refine loopP_inv (fun st w3 => ∃ (i : Nat) (acc : List Ky) (a : Nat), st.2.1 = (i : Int) ∧ i ≤ N ∧ acc.length = i ∧ st.1.l = i ∧ MB n w3 b s bs a 0 ∧ Own w3 100 2 st.1 (flat acc) ∧ Ge w.heap.size (blkOf st.1) ∧ Ch [some b] w w3 ∧ rKeys bs N [] at0 = rKeys bs (N - i) acc a) (fun st _ => N - st.2.1.toNat)
    ⟨0, [], at0, rfl, Nat.zero_le _, rfl, rfl, h1, Own.nil _ _ _, (fun k hk => by cases hk), hc1', rfl⟩ ?_
  rintro ⟨l, i0, u⟩ w3 next ⟨i, acc, a, rfl, hi, hacc, hll, h3, ho3, hg3, hc3, heq⟩ hnext
  dsimp only at hll ho3 hg3 ⊢
  have z3 := hc3.size
  have nbl : ∀ {x : Slc}, Ge w.heap.size (blkOf x) → ∀ k, blkOf x = some k → ¬ inL [some b] k := fun hg k hk hin => by
    have := hg k hk; have : some k = some b := hin; cases this; omega
  refine iteB_dec (fun hh => ?_) (fun hh => ?_)
  · have hlt : i < N := by omega
    obtain ⟨m, hm'⟩ : ∃ m, N - i = m + 1 := ⟨N - i - 1, by omega⟩
    have hm2 : N - (i + 1) = m := by omega
    rw [hm', rKeys_succ] at heq
    rw [nnP_some]
    refine ldI_of h3.mr.c2 (iteB_pos (by simp) ?_)
    rw [nnP_some]
    refine ldI_of h3.mr.c1 ?_
    refine mraw_ok h3.mr (by omega) fun x w4 hr4 ho4 hc4 hg4 => ?_
    have hc4' : Ch [some b] w3 w4 := Ch.of1 hc4
    have h4 := h3.moved hr4 hc4'
    rw [nnP_some]
    refine ldI_of hr4.c2 ?_
    refine iteB_ne (fun he4 => ?_) (fun he4 => ?_)
    · rw [if_pos he4] at heq
      rw [heq] at hK
      have := rRaw_err he4
      rw [this] at h4
      exact hK _ [] w4 h4 (fun h0 => absurd h0 he4) (hc3.tr hc4') (Own.nil _ _ _) (fun k hk => by cases hk)
    rw [if_neg (by omega)] at heq
    have hx10 := rRaw_len he4
    rw [he4] at h4
    have ho3' := ho3.ch hc4' (nbl hg3)
    refine rfromB_ok ho4.rd hx10 fun w6 hc6 => ?_
    generalize kDec (rRaw bs a 0 10).1 = ky at *
    generalize (rRaw bs a 0 10).2.1 = a' at *
    have h6 := h4.ch0 hc6
    have ho6 := ho3'.ch0 hc6
    have hc36 : Ch [some b] w w6 := (hc3.tr hc4').tr0 hc6
    refine newIn fun k7 w7 hc7 hb7 hk7 hs7 => ?_
    have h7 := h6.ch0 hc7
    have ho7 := ho6.ch0 hc7
    have hc37 := hc36.tr0 hc7
    have grow : ∀ w8, Ch [] w7 w8 → (rKeys bs N [] at0 = rKeys bs m (acc ++ [ky]) a') →
        newP #[.int .i64 ky.1, .int .i64 ky.2] 100 w8 fun a36 w37 => apP Tryd.prog #[60, 60] 60 [.slice l.a l.l l.c, .slice (some a36) 1 1] w37 fun s39 w38 => next (s39, (IntKind.u64.wrap ((i : Int) + 1)), ()) w38 := fun w8 hc8 heq' => by
      have zz := (hc37.tr0 hc8).size
      refine apB TKy rfl (fun u hu => by simp at hu; rcases hu with rfl | rfl <;> rfl) (ho7.ch0 hc8) (by omega) (by omega) fun l' w9 ho9 hl9 hg9 => ?_
      obtain ⟨hc9, hf9⟩ := hg9.ch
      rw [wrap_u64 (by omega)]
      refine hnext _ _ ⟨i + 1, acc ++ [ky], a', by simp, hlt, by simp [hacc], by dsimp only; omega, (h7.ch0 hc8).chO hc9 (fun k hk => by have := hg3 k hk; omega), ?_, fun k hk => ?_, ?_, by rw [heq', hm2]⟩ (by simp; omega)
      · have : flat (acc ++ [ky]) = flat acc ++ [.int .i64 ky.1, .int .i64 ky.2] := by simp [flat]
        rw [this]; exact ho9
      · rcases hf9 k hk with g | g
        · exact hg3 k g
        · omega
      · exact (hc37.tr0 hc8).trO hc9 hg3
    refine iteB_dec (fun hpos => ?_) (fun hpos => ?_)
    · have dn := Ch.drew w7
      rw [wrap_i64 (by omega)]
      have hlast : i - 1 < acc.length := by omega
      have hrd := (ho7.ch0 dn).rdC'
      refine hrd.idx (i := i - 1) (by omega) hlast fun ad a1 a2 => ldI_of a1 (ldI_of a2 ?_)
      refine ldI_b (o := 0) (hb7.ch0 dn) rfl (ldI_b (o := 1) (hb7.ch0 dn) rfl ?_)
      refine rcompare_ok fun w8 hc8 => ?_
      have e1 : ((acc[i - 1].1, acc[i - 1].2) : Ky) = kAt acc (acc.length - 1) := by rw [hacc, kAt_lt hlast]
      rw [e1]
      have hcm := cmpK_neg (kAt acc (acc.length - 1)) ky
      have h8 := (h7.ch0 dn).ch0 hc8
      refine iteB_dec (fun hge => ?_) (fun hge => ?_)
      · have hno : kLt (kAt acc (acc.length - 1)) ky = false := by
          rw [Bool.eq_false_iff]; intro ht; have := hcm.2 ht; have hge : cmpK (kAt acc (acc.length - 1)) ky ≥ 0 := hge; omega
        rw [if_pos ⟨by omega, hno⟩] at heq
        rw [heq] at hK
        rw [nnP_some]
        refine h8.mr.set1 (at2 := a) rfl h3.mr.le fun w9 hr9 hc9 => ?_
        rw [nnP_some]
        refine hr9.set2 fun w10 hr10 hc10 => ?_
        have hcx : Ch [some b] w8 w10 := (Ch.of1 hc9).tr (Ch.of1 hc10)
        exact hK _ [] w10 (h8.moved hr10 hcx) (fun h0 => absurd h0 (show (65 : Int) ≠ 0 by omega)) (((hc37.tr0 dn).tr0 hc8).tr hcx) (Own.nil _ _ _) (fun k hk => by cases hk)
      · have hyes : kLt (kAt acc (acc.length - 1)) ky = true := hcm.1 (by have hge : ¬ cmpK (kAt acc (acc.length - 1)) ky ≥ 0 := hge; omega)
        rw [if_neg (by rw [hyes]; simp)] at heq
        refine ldI_b (o := 0) ((hb7.ch0 dn).ch0 hc8) rfl (ldI_b (o := 1) ((hb7.ch0 dn).ch0 hc8) rfl ?_)
        exact grow w8 (dn.tr hc8) heq
    · have dn := Ch.drew w7
      rw [if_neg (by omega)] at heq
      refine ldI_b (o := 0) (hb7.ch0 dn) rfl (ldI_b (o := 1) (hb7.ch0 dn) rfl ?_)
      exact grow _ dn heq
  · have hie : i = N := by omega
    subst hie
    rw [Nat.sub_self] at heq
    rw [heq] at hK
    exact hK l acc w3 h3 (fun _ => rfl) hc3 ho3 hg3
set_option maxHeartbeats 4000000 in
set_option maxRecDepth 20000 in
theorem rtx_ok {K : Int → Slc → Slc → Slc → World → Prop} (h : MB n w b s bs at_ e)
    (hK : ∀ x ag rs ws w', MB n w' b s bs (sTx bs at_ e).2.1 (sTx bs at_ e).2.2 → ((sTx bs at_ e).2.2 = 0 → x = (sTx bs at_ e).1) → Ch [some b] w w' → TxN w.heap.size w' x ag rs ws → K x.proc ag rs ws w') : c_preluderef06_one (some ⟨b, 0, none⟩) w K := by
  refine sim_preluderef06_one ?_
  unfold sh_preluderef06_one
  have z := h.nw
  have zb := h.bn
  obtain ⟨q2, q1⟩ := qTx_ok bs at_ e
  rw [← q2] at hK
  replace hK : ∀ x ag rs ws w', MB n w' b s bs (qTx bs at_ e).2.1 (qTx bs at_ e).2.2 → ((qTx bs at_ e).2.2 = 0 → x = (qTx bs at_ e).1) → Ch [some b] w w' → TxN w.heap.size w' x ag rs ws → K x.proc ag rs ws w' := fun x ag rs ws w' h1 h2 => hK x ag rs ws w' h1 fun h0 => by rw [h2 h0, q1 (by rw [← q2]; exact h0)]
  clear q1 q2
  unfold qTx at hK
  refine newB fun k1 w1 hc1 hb1 hk1 hs1 => ?_
  refine newB fun k4 w2 hc2 hb4 hk4 hs2 => ?_
  replace hb1 := hb1.ch0 hc2
  replace hc2 := hc1.tr hc2
  have h2 := h.ch0 hc2
  have nin : ∀ k, k ≠ b → ¬ inL [some b] k := fun k hk => nin1' hk
  refine mupto_ok (most := 63) h2.mr fun w3 hr3 hc3 => ?_
  have hc3' : Ch [some b] w2 w3 := Ch.of1 hc3
  have h3 := h2.moved hr3 hc3'
  have hle3 := @rUpto_le bs at_ 63 e
  generalize rUpto bs at_ e 63 = qa at *
  obtain ⟨pr, a3, e3⟩ := qa
  dsimp only at hK h3 hr3 hle3 ⊢
  rw [wrap_i64 (by omega)]
  refine stB (o := 0) (hb4.ch hc3' (nin _ (by omega))) (by simp) fun w4 hc4 hb44 hz4 => ?_
  have h4 := h3.chO hc4 (fun k hk => by cases hk; omega)
  have hb14 := (hb1.ch hc3' (nin _ (by omega))).ch hc4 (nin1' (by omega))
  have hcw4 : Ch [some b] w w4 := (Ch.tr' hc2 hc3').trN hc4 (by omega)
  refine mupto_ok (most := 16) h4.mr fun w5 hr5 hc5 => ?_
  have hc5' : Ch [some b] w4 w5 := Ch.of1 hc5
  have h5 := h4.moved hr5 hc5'
  have hle5 := @rUpto_le bs a3 16 e3
  generalize rUpto bs a3 e3 16 = qb at *
  obtain ⟨na, a5, e5⟩ := qb
  dsimp only at hK h5 hr5 hle5 ⊢
  have hb45 : Blk w5 k4 #[.int .i64 (pr : Int), .slice none 0 0, .slice none 0 0, .slice none 0 0] 62 := hb44.ch hc5' (nin _ (by omega))
  have hb15 := hb14.ch hc5' (nin _ (by omega))
  have z4 := hcw4.size
  have z5 := hc5'.size
  -- the args
  have l4 := hb44.lt
  have fin : ∀ (w6 : World) (acc : List Int) (l : Slc) (a : Nat) (e6 : Int), MB n w6 b s bs a e6 → (sArgs bs na a5 e5).2 = (a, e6) → (e6 = 0 → acc = (sArgs bs na a5 e5).1) → Own w6 2 1 l (Is .i64 acc) → Ge w4.heap.size (blkOf l) → Ch [some b, some k4] w4 w6 → Blk w6 k4 #[.int .i64 (pr : Int), .slice l.a l.l l.c, .slice none 0 0, .slice none 0 0] 62 →
      c_preluderef06_keys (some ⟨b, 0, none⟩) 16 w6 fun r24 w25 => stP ((⟨k4, 0, none⟩ : Addr).add 2) (.slice r24.a r24.l r24.c) w25 fun w26 => c_preluderef06_keys (some ⟨b, 0, none⟩) 16 w26 fun r27 w28 => stP ((⟨k4, 0, none⟩ : Addr).add 3) (.slice r27.a r27.l r27.c) w28 fun w29 => ldI .i64 (⟨k4, 0, none⟩ : Addr) w29 fun n30 => ldS ((⟨k4, 0, none⟩ : Addr).add 1) w29 fun s31 => ldS ((⟨k4, 0, none⟩ : Addr).add 2) w29 fun s32 => ldS ((⟨k4, 0, none⟩ : Addr).add 3) w29 fun s33 => stP (⟨k1, 0, none⟩ : Addr) (.int .i64 n30) w29 fun w34 => stP ((⟨k1, 0, none⟩ : Addr).add 1) (.slice s31.a s31.l s31.c) w34 fun w35 => stP ((⟨k1, 0, none⟩ : Addr).add 2) (.slice s32.a s32.l s32.c) w35 fun w36 => stP ((⟨k1, 0, none⟩ : Addr).add 3) (.slice s33.a s33.l s33.c) w36 fun w37 => ldI .i64 (⟨k1, 0, none⟩ : Addr) w37 fun n38 => ldS ((⟨k1, 0, none⟩ : Addr).add 1) w37 fun s39 => ldS ((⟨k1, 0, none⟩ : Addr).add 2) w37 fun s40 => ldS ((⟨k1, 0, none⟩ : Addr).add 3) w37 fun s41 => K n38 s39 s40 s41 w37 := fun w6 acc l a e6 h6 hq hval ho6 hg6 hc6 hb6 => by
    have nb4 : ∀ k, k ≠ b → k ≠ k4 → ¬ inL [some b, some k4] k := fun k h1 h2 hin => by
      rcases (show some k = some b ∨ some k = some k4 from hin) with hin | hin
      · cases hin; exact h1 rfl
      · cases hin; exact h2 rfl
    have hb16 := hb14.ch hc6 (nb4 k1 (by omega) (by omega))
    have z6 := hc6.size
    have hcw6 : Ch [some b] w w6 := Ch.trans hcw4 hc6 fun j hj hin => by
      rcases (show some j = some b ∨ some j = some k4 from hin) with hin | hin
      · exact hin
      · cases hin; omega
    generalize sArgs bs na a5 e5 = qc at *
    obtain ⟨av, c1, c2⟩ := qc
    dsimp only at hq hval hK
    cases hq
    refine rbset_ok (most := 16) h6 (by omega) fun r rk w7 h7 hrv hc7 hor hgr => ?_
    have hst1 : e6 ≠ 0 → (sSet bs a e6 16).2.2 = e6 := fun h0 => by unfold sSet; rw [if_pos h0]
    generalize sSet bs a e6 16 = qd at *
    obtain ⟨rv, d1, d2⟩ := qd
    dsimp only at h7 hrv hK hst1
    have z7 := hc7.size
    have hb7 := hb6.ch hc7 (nin _ (by omega))
    have hb17 := hb16.ch hc7 (nin _ (by omega))
    have nb : ∀ (k : Nat), w.heap.size ≤ k → ¬ inL [some b] k := fun k hk => nin1' (by omega)
    have ho7 := ho6.ch hc7 (fun k hk => nb k (by have := hg6 k hk; omega))
    refine stB (o := 2) hb7 (by simp) fun w8 hc8 hb8 hz8 => ?_
    have h8 := h7.chO hc8 (fun k hk => by cases hk; omega)
    have ho8 := ho7.ch hc8 (fun k hk => nin1' (by have := hg6 k hk; omega))
    have hor8 := hor.ch hc8 (fun k hk => nin1' (by have := hgr k hk; omega))
    have hb18 := hb17.ch hc8 (nin1' (by omega))
    have hcw8 : Ch [some b] w w8 := (hcw6.tr hc7).trN hc8 (by omega)
    refine rbset_ok (most := 16) h8 (by omega) fun q qk w9 h9 hqv hc9 hoq hgq => ?_
    have hst2 : d2 ≠ 0 → (sSet bs d1 d2 16).2.2 = d2 := fun h0 => by unfold sSet; rw [if_pos h0]
    generalize sSet bs d1 d2 16 = qe at *
    obtain ⟨wv, f1, f2⟩ := qe
    dsimp only at h9 hqv hK hst2
    have z9 := hc9.size
    have hb9 := hb8.ch hc9 (nin _ (by omega))
    have hb19 := hb18.ch hc9 (nin _ (by omega))
    have ho9 := ho8.ch hc9 (fun k hk => nb k (by have := hg6 k hk; omega))
    have hor9 := hor8.ch hc9 (fun k hk => nb k (by have := hgr k hk; omega))
    refine stB (o := 3) hb9 (by simp) fun w10 hc10 hb10 hz10 => ?_
    have h10 := h9.chO hc10 (fun k hk => by cases hk; omega)
    have ho10 := ho9.ch hc10 (fun k hk => nin1' (by have := hg6 k hk; omega))
    have hor10 := hor9.ch hc10 (fun k hk => nin1' (by have := hgr k hk; omega))
    have hoq10 := hoq.ch hc10 (fun k hk => nin1' (by have := hgq k hk; omega))
    have hb110 := hb19.ch hc10 (nin1' (by omega))
    have hcw10 : Ch [some b] w w10 := (hcw8.tr hc9).trN hc10 (by omega)
    have hbx : Blk w10 k4 #[.int .i64 (pr : Int), .slice l.a l.l l.c, .slice r.a r.l r.c, .slice q.a q.l q.c] 62 := hb10
    refine ldI_b (o := 0) hbx rfl (ldS_b (o := 1) (s := l) hbx rfl (ldS_b (o := 2) (s := r) hbx rfl (ldS_b (o := 3) (s := q) hbx rfl ?_)))
    refine stB (o := 0) hb110 (by simp) fun w11 hc11 hb11 _ => stB hb11 (by simp) fun w12 hc12 hb12 _ => stB hb12 (by simp) fun w13 hc13 hb13 _ => stB hb13 (by simp) fun w14 hc14 hb14' _ => ?_
    have hcz : Ch [some k1] w10 w14 := ((hc11.tr hc12).tr hc13).tr hc14
    have hby : Blk w14 k1 #[.int .i64 (pr : Int), .slice l.a l.l l.c, .slice r.a r.l r.c, .slice q.a q.l q.c] 62 := hb14'
    refine ldI_b (o := 0) hby rfl (ldS_b (o := 1) (s := l) hby rfl (ldS_b (o := 2) (s := r) hby rfl (ldS_b (o := 3) (s := q) hby rfl ?_)))
    have pl := ho6.ltS
    have prs := hor.ltS
    refine hK ⟨(pr : Int), acc, rk, qk⟩ l r q w14 (h10.chO hcz (fun k hk => by cases hk; omega)) (fun h0 => ?_) (hcw10.trN hcz (by omega)) ⟨?_, ?_, ?_, fun k hk => ?_, fun k hk => ?_, fun k hk => ?_, fun k h1 h2 => ?_, fun k h1 h2 => ?_, fun k h1 h2 => ?_⟩
    · have h0 : f2 = 0 := h0
      have d0 : d2 = 0 := by
        rcases Decidable.em (d2 = 0) with g | g
        · exact g
        · have := hst2 g; omega
      have e0 : e6 = 0 := by
        rcases Decidable.em (e6 = 0) with g | g
        · exact g
        · have := hst1 g; omega
      rw [hval e0, hrv d0, hqv h0]
    · exact ho10.ch hcz (fun k hk => nin1' (by have := hg6 k hk; omega))
    · exact hor10.ch hcz (fun k hk => nin1' (by have := hgr k hk; omega))
    · exact hoq10.ch hcz (fun k hk => nin1' (by have := hgq k hk; omega))
    · have := hg6 k hk; omega
    · have := hgr k hk; omega
    · have := hgq k hk; omega
    · have := pl k h1; have := hgr k h2; omega
    · have := pl k h1; have := hgq k h2; omega
    · have := prs k h1; have := hgq k h2; omega
  refine loopP_inv (fun st w6 => ∃ (i : Nat) (acc : List Int) (a : Nat) (e6 : Int) (l : Slc), st.1 = (i : Int) ∧ i ≤ na ∧ acc.length = i ∧ l.l = i ∧ MB n w6 b s bs a e6 ∧ Own w6 2 1 l (Is .i64 acc) ∧ Ge w4.heap.size (blkOf l) ∧ Ch [some b, some k4] w4 w6 ∧ Blk w6 k4 #[.int .i64 (pr : Int), .slice l.a l.l l.c, .slice none 0 0, .slice none 0 0] 62 ∧ (e6 ≠ 0 → (sArgs bs na a5 e5).2 = (a, e6)) ∧ (e6 = 0 → sArgs bs na a5 e5 = rArgs bs (na - i) acc a)) (fun st _ => na - st.1.toNat)
    ⟨0, [], a5, e5, ⟨none, 0, 0⟩, rfl, Nat.zero_le _, rfl, rfl, h5, Own.nil _ _ _, (fun k hk => by cases hk), hc5'.mono fun i _ hi => .inl hi, hb45, (fun h0 => by unfold sArgs; rw [if_pos h0]), (fun h0 => by unfold sArgs; rw [if_neg (by omega)]; rfl)⟩ ?_
  rintro ⟨i0, u⟩ w6 next ⟨i, acc, a, e6, l, rfl, hi, hacc, hll, h6, ho6, hg6, hc6, hb6, hne, heq⟩ hnext
  dsimp only
  have z6 := hc6.size
  refine iteB_dec (fun hh => ?_) (fun hh => ?_)
  · have hlt : i < na := by omega
    rw [nnP_some]
    refine ldI_of h6.mr.c2 ?_
    refine iteB_eq (fun he6 => ?_) (fun he6 => ?_)
    · subst he6
      replace heq := heq rfl
      obtain ⟨m, hm'⟩ : ∃ m, na - i = m + 1 := ⟨na - i - 1, by omega⟩
      have hm2 : na - (i + 1) = m := by omega
      rw [hm', rArgs_succ] at heq
      refine mint_ok h6.mr fun w7 hr7 hc7 => ?_
      have hc7' : Ch [some b] w6 w7 := Ch.of1 hc7
      have h7 := h6.moved hr7 hc7'
      have hb7 := hb6.ch hc7' (nin _ (by omega))
      have ho7 := ho6.ch hc7' (fun k hk hin => by have := hg6 k hk; have : some k = some b := hin; cases this; omega)
      have herr := @rUpto_err bs a 18446744073709551615 0
      generalize rUpto bs a 0 18446744073709551615 = qf at *
      obtain ⟨uv, a', e'⟩ := qf
      dsimp only at heq h7 herr ⊢
      generalize unz uv = v at *
      refine ldS_b (o := 1) (s := l) hb7 rfl ?_
      refine apB TI6 (cells := #[.int .i64 v]) rfl (fun u hu => by simp at hu; subst hu; rfl) ho7 (by omega) (by omega) fun l' w9 ho9 hl9 hg9 => ?_
      obtain ⟨hc9, hf9⟩ := hg9.ch
      have z7 := hc7'.size
      have z9 := hc9.size
      have lk : ∀ k, blkOf l = some k → k ≠ k4 := fun k hk he => by
        subst he
        have := hg6 k hk; omega
      have hb9 := hb7.ch hc9 (fun hin => lk k4 (show some k4 = blkOf l from hin).symm rfl)
      refine stB (o := 1) hb9 (by simp) fun w10 hc10 hb10 hz10 => ?_
      have gl' : Ge w4.heap.size (blkOf l') := fun k hk => by
        rcases hf9 k hk with g | g
        · exact hg6 k g
        · omega
      rw [wrap_u64 (by omega)]
      refine hnext _ _ ⟨i + 1, acc ++ [v], a', e', l', by simp, hlt, by simp [hacc], by omega, (h7.chO hc9 (fun k hk => by have := hg6 k hk; omega)).chO hc10 (fun k hk => by cases hk; omega), ?_, gl', ?_, hb10, (fun h0 => ?_), (fun h0 => ?_)⟩ (by simp; omega)
      · have : Is .i64 (acc ++ [v]) = Is .i64 acc ++ [.int .i64 v] := by simp [Is]
        rw [this]
        exact ho9.ch hc10 fun k hk hin => by have := gl' k hk; have : some k = some k4 := hin; cases this; omega
      · refine Ch.trans (Ch.trans (Ch.trans hc6 hc7' fun j hj hin => .inl hin) hc9 fun j hj hin => ?_) hc10 fun j hj hin => .inr hin
        have := hg6 j (show some j = blkOf l from hin).symm; omega
      · rw [heq, if_pos h0, herr h0]
      · rw [heq, if_neg (by omega), hm2]
    · exact fin w6 acc l a e6 h6 (hne he6) (fun h0 => absurd h0 he6) ho6 hg6 hc6 hb6
  · have hie : i = na := by omega
    subst hie
    rw [Nat.sub_self] at heq
    refine fin w6 acc l a e6 h6 ?_ (fun h0 => ?_) ho6 hg6 hc6 hb6
    · rcases Decidable.em (e6 = 0) with h0 | h0
      · rw [heq h0, h0]; rfl
      · exact hne h0
    · rw [heq h0]; rfl
set_option maxHeartbeats 4000000 in
set_option maxRecDepth 20000 in
theorem rbdec_ok {x : Slc} {bs : List UInt8} {w : World} {K : Slc → Int → Int → World → Prop} (hx : Rd w x (U8 bs)) (hxb : ∀ k, blkOf x = some k → bs ≠ [] → k < w.heap.size) (hl : bs.length ≤ 140737488351232)
    (hK : ∀ s ts w', DO w.heap.size w' s ts → ts.map (·.x) = (decB bs).1 → Ch [] w w' → K s ((decB bs).2.1 : Int) (decB bs).2.2 w') : c_preluderef06_Decode x w K := by
  refine sim_preluderef06_Decode ?_
  unfold sh_preluderef06_Decode
  unfold decB at hK
  refine newB fun b w1 hc1 hb1 hk1 hs1 => ?_
  have h1 : MB w1.heap.size w1 b x bs 0 0 := ⟨⟨hb1, hx.ch0 hc1, fun hne hk => by have := hxb _ hk hne; omega, Nat.zero_le _, hl⟩, hb1.lt, fun hne k hk => by have := hxb k hk hne; omega, Nat.le_refl _⟩
  refine mupto_ok (most := 64) h1.mr fun w2 hr2 hc2 => ?_
  have hc2' : Ch [some b] w1 w2 := Ch.of1 hc2
  have h2 := h1.moved hr2 hc2'
  have hle := @rUpto_le bs 0 64 0
  have herr := @rUpto_err bs 0 64 0
  have hz : (rUpto bs 0 0 64).2.2 ≠ 0 → (rUpto bs 0 0 64).1 = 0 := fun he1 => by
    unfold rUpto at he1 ⊢
    rw [if_neg (by simp)] at he1 ⊢
    rcases hd : dnum 0 0 (bs.drop 0) with ⟨n, k, d⟩
    rw [hd] at he1
    simp only at he1 ⊢
    split
    · rfl
    · rename_i h2
      rw [if_neg h2] at he1
      split
      · rfl
      · rename_i h3; rw [if_neg h3] at he1; exact absurd rfl he1
  generalize rUpto bs 0 0 64 = q at *
  obtain ⟨N, a7, e7⟩ := q
  dsimp only at hK h2 hle herr hz ⊢
  have z2 := hc2'.size
  have nin : ∀ k, k ≠ b → ¬ inL [some b] k := fun k hk => nin1' hk
  have fin : ∀ (w8 : World) (ts : List TxR) (l : Slc) (a : Nat) (e : Int), MB w1.heap.size w8 b x bs a e → Ch [] w w8 → DO w.heap.size w8 l ts → (e7 ≠ 0 → a = 0 ∧ e = e7) → (e7 = 0 → e ≠ 0 → (rTxs bs N [] a7).2 = (a, e)) → (e7 = 0 → e = 0 → rTxs bs N [] a7 = (ts.map (·.x), a, 0)) →
      c_preluderef01_Reader_End (some ⟨b, 0, none⟩) w8 fun r31 w32 => iteB ((r31 : Int) != 0) (nnP (some (⟨b, 0, none⟩ : Addr)) fun a33 => ldI .i64 (a33.add 1) w32.drew fun n34 => K ⟨none, 0, 0⟩ n34 r31 w32.drew) (K l 0 0 w32) := fun w8 ts l a e h8 hcw hD g1 g2 g3 => by
    refine mend_ok h8.mr fun w9 hd9 => ?_
    have hc9 : Ch [] w8 w9 := hd9.chg Nil
    have h9 := h8.ch0 hc9
    have hcw9 := hcw.tr hc9
    have dn := Ch.drew w9
    have err : ∀ (a' : Nat) (r : Int), a = a' → r ≠ 0 → (∀ s ts w', DO w.heap.size w' s ts → ts.map (·.x) = [] → Ch [] w w' → K s (a' : Int) r w') →
        iteB ((r : Int) != 0) (nnP (some (⟨b, 0, none⟩ : Addr)) fun a33 => ldI .i64 (a33.add 1) w9.drew fun n34 => K ⟨none, 0, 0⟩ n34 r w9.drew) (K l 0 0 w9) := fun a' r ha hr hk => by
      subst ha
      refine iteB_pos (by simpa using hr) ?_
      rw [nnP_some]
      exact ldI_of (h9.ch0 dn).mr.c1 (hk _ [] _ (DO.nil _ _) rfl (hcw9.tr dn))
    by_cases he7 : e7 ≠ 0
    · rw [if_pos he7] at hK
      obtain ⟨ga, ge⟩ := g1 he7
      have hre : rEnd bs a e = e7 := by unfold rEnd; rw [if_neg (by rw [ge]; exact he7), ge]
      rw [hre]
      exact err 0 e7 ga he7 hK
    rw [if_neg he7] at hK
    have he7' : e7 = 0 := by omega
    by_cases he : e ≠ 0
    · have g := g2 he7' he
      generalize rTxs bs N [] a7 = q at *
      obtain ⟨v, c1, c2⟩ := q
      dsimp only at g hK
      cases g
      rw [if_pos he] at hK
      have hre : rEnd bs a e = e := by unfold rEnd; rw [if_neg he]
      rw [hre]
      exact err a e rfl he hK
    · have he0 : e = 0 := by omega
      rw [g3 he7' he0] at hK
      dsimp only at hK
      rw [if_neg (by simp)] at hK
      by_cases hlt : a < bs.length
      · rw [if_pos hlt] at hK
        have hre : rEnd bs a e = 11 := by unfold rEnd; rw [if_pos he0, if_pos hlt]
        rw [hre]
        exact err a 11 rfl (by omega) hK
      · rw [if_neg hlt] at hK
        have hre : rEnd bs a e = 0 := by unfold rEnd; rw [if_pos he0, if_neg hlt]
        rw [hre]
        exact iteB_neg (by simp) (hK l ts w9 (hD.ch0 hc9) rfl hcw9)
  refine loopP_inv (fun st w8 => ∃ (i : Nat) (ts : List TxR) (a : Nat) (e : Int), st.2.1 = (i : Int) ∧ i ≤ N ∧ ts.length = i ∧ MB w1.heap.size w8 b x bs a e ∧ Ch [] w w8 ∧ DO w1.heap.size w8 st.1 ts ∧ (e7 ≠ 0 → a = 0 ∧ e = e7) ∧ (e7 = 0 → e ≠ 0 → (rTxs bs N [] a7).2 = (a, e)) ∧ (e7 = 0 → e = 0 → rTxs bs N [] a7 = rTxs bs (N - i) (ts.map (·.x)) a)) (fun st _ => N - st.2.1.toNat)
    ⟨0, [], a7, e7, rfl, Nat.zero_le _, rfl, h2, hc1.trN hc2' (by omega), DO.nil _ _, (fun h0 => ⟨herr h0, rfl⟩), (fun h0 h1 => absurd h0 h1), (fun _ _ => rfl)⟩ ?_
  rintro ⟨l, i0, u⟩ w8 next ⟨i, ts, a, e, rfl, hi, hts, h8, hcw8, hD8, g1, g2, g3⟩ hnext
  dsimp only at hD8 ⊢
  have zz := hcw8.size
  have lower : DO w.heap.size w8 l ts := ⟨hD8.own, fun t ht => (hD8.row t ht).le (by omega), fun k hk => by have := hD8.gs k hk; omega, hD8.ds, hD8.dt⟩
  refine iteB_dec (fun hh => ?_) (fun hh => ?_)
  · have hlt : i < N := by omega
    have he7 : e7 = 0 := by
      rcases Decidable.em (e7 = 0) with g | g
      · exact g
      · have := hz g; omega
    rw [nnP_some]
    refine ldI_of h8.mr.c2 ?_
    refine iteB_eq (fun he => ?_) (fun he => ?_)
    rotate_left
    · exact fin w8 ts l a e h8 hcw8 lower g1 g2 (fun _ h0 => absurd h0 he)
    subst he
    have heq := g3 he7 rfl
    obtain ⟨m, hm'⟩ : ∃ m, N - i = m + 1 := ⟨N - i - 1, by omega⟩
    have hm2 : N - (i + 1) = m := by omega
    rw [hm', rTxs_succ] at heq
    refine rtx_ok h8 fun y ag rs ws w9 h9 hval hc9 hN9 => ?_
    have hs0 : sTx bs a 0 = rTx bs a := by unfold sTx; rw [if_neg (by simp)]
    rw [hs0] at h9 hval
    generalize rTx bs a = q at *
    obtain ⟨yv, a9, e9⟩ := q
    dsimp only at heq h9 hval
    have z9 := hc9.size
    have hb8 := h8.bn
    have hcw9 := hcw8.trN hc9 (by omega)
    have hD9 := hD8.chg (show Chg (inL [some b]) w8 w9 from hc9) fun k hk => by
      have hk : some k = some b := hk
      cases hk; omega
    refine newTx fun k5 w5 hc5 hb5 hk5 hs5 => ?_
    refine ldI_b (o := 0) hb5 rfl (ldS_b (o := 1) (s := ag) hb5 rfl (ldS_b (o := 2) (s := rs) hb5 rfl (ldS_b (o := 3) (s := ws) hb5 rfl ?_)))
    refine newB fun k10 w10 hc10 hb10 hk10 hs10 => ?_
    have hc59 := hc5.tr hc10
    have hlD := hD8.lts
    have hls := hD8.own.ltS
    have nw := h8.nw
    refine (hD9.ch0 hc59).push (m := w8.heap.size) (t := ⟨y, ag, rs, ws⟩) nw hls (fun u hu k hk => (hlD u hu k hk).2) (hN9.chg (show Chg Nil w9 w10 from hc59) fun _ h => h.elim) hb10 (by omega) (by omega) fun l' w11 hD11 hc11 hf11 => ?_
    rw [wrap_u64 (by omega)]
    refine hnext _ _ ⟨i + 1, ts ++ [⟨y, ag, rs, ws⟩], a9, e9, by simp, hlt, by simp [hts], (h9.ch0 hc59).chO hc11 hD8.gs, ?_, hD11, (fun h0 => absurd he7 h0), (fun _ h0 => ?_), (fun _ h0 => ?_)⟩ (by simp; omega)
    · exact (hcw9.tr hc59).trO hc11 (fun k hk => by have := hD8.gs k hk; omega)
    · rw [heq, if_pos h0]
    · rw [heq, if_neg (by omega), hm2, hval h0]; simp
  · have hie : i = N := by omega
    subst hie
    rw [Nat.sub_self] at g3
    exact fin w8 ts l a e h8 hcw8 lower g1 g2 (fun h0 h1 => by rw [g3 h0 h1]; rfl)
end
end Go.Proofs.YtlnhecbgjjglfaaDoor
