/- BDec: a batch is read: the program's readers, which give up by a panic. -/
import Derived.Test.YtlnhecbgjjglfaaDoorDcM
import Derived.Test.YtlnhecbgjjglfaaDoorTxC
set_option linter.unusedVariables false
set_option linter.unusedSimpArgs false
namespace Go.Proofs.YtlnhecbgjjglfaaDoor
open Go Go.Sh Go.Pl Go.RowKit Go.Num
/-- A Reader without an error, all of it below a bound. -/
structure RB (n : Nat) (w : World) (b : Nat) (s : Slc) (bs : List UInt8) (at_ : Nat) : Prop where
  rr : Rr w b s bs at_ 0
  bn : b < n
  sn : Lt n (blkOf s)
  nw : n ≤ w.heap.size
section
variable {n : Nat} {w w' : World} {b : Nat} {s : Slc} {bs : List UInt8} {at_ : Nat}
theorem RB.ch0 (h : RB n w b s bs at_) (hc : Ch [] w w') : RB n w' b s bs at_ := ⟨h.rr.nil hc, h.bn, h.sn, Nat.le_trans h.nw hc.size⟩
theorem RB.chO {o : Option Nat} (h : RB n w b s bs at_) (hc : Ch [o] w w') (ho : Ge n o) : RB n w' b s bs at_ :=
  ⟨h.rr.chg hc (fun hin => by have := ho b (show some b = o from hin).symm; have := h.bn; omega) (fun k hk hin => by have := ho k (show some k = o from hin).symm; have := h.sn k hk; omega), h.bn, h.sn, Nat.le_trans h.nw hc.size⟩
theorem RB.chO2 {q : Nat} (h : RB n w b s bs at_) (hc : Ch [some q] w w') (h1 : q ≠ b) (h2 : blkOf s ≠ some q) : RB n w' b s bs at_ :=
  ⟨h.rr.chg hc (fun hin => by have hin : some b = some q := hin; cases hin; exact h1 rfl) (fun k hk hin => by have hin : some k = some q := hin; cases hin; exact h2 hk), h.bn, h.sn, Nat.le_trans h.nw hc.size⟩
theorem RB.moved {at2 : Nat} {e : Int} (h : RB n w b s bs at_) (hr : Rr w' b s bs at2 e) (he : e = 0) (hc : Ch [some b] w w') : RB n w' b s bs at2 := by
  subst he; exact ⟨hr, h.bn, h.sn, Nat.le_trans h.nw hc.size⟩
def brk (at_ : Nat) (e : Int) : List PanicEntry := [{ v := .iface 71 (.agg #[.int .i64 (at_ : Int), .int .i64 e]), recovered := false }]
theorem held_ok {a : Nat} {e : Int} {K : World → Prop} {KP : List PanicEntry → World → Prop} (h : Rr w b s bs at_ e) (hK : ∀ w', e = 0 → Ch [] w w' → K w') (hP : ∀ w', e ≠ 0 → Ch [] w w' → KP (brk a e) w') :
    c_batch_reader_held (some ⟨b, 0, none⟩) (a : Int) w K KP := by
  refine sim_batch_reader_held ?_
  unfold sh_batch_reader_held
  refine newB fun k w1 hc1 hb1 hk1 hs1 => ?_
  refine ldP_b (o := 0) hb1 rfl ?_
  refine sim_codec_Reader_Err ?_
  unfold sh_codec_Reader_Err
  rw [nnP_some]
  refine ldI_of (h.nil hc1).c2 ?_
  exact iteB_ne (fun h => hP w1 h hc1) (fun h => hK w1 h hc1)
theorem bupto_ok {most : Nat} {K : Int → World → Prop} {KP : List PanicEntry → World → Prop} (h : RB n w b s bs at_) (hm : most ≤ 1000000)
    (hK : ∀ w', (rUpto bs at_ 0 most).2.2 = 0 → RB n w' b s bs (rUpto bs at_ 0 most).2.1 → Ch [some b] w w' → (rUpto bs at_ 0 most).1 ≤ most → K ((rUpto bs at_ 0 most).1 : Int) w')
    (hP : ∀ w', (rUpto bs at_ 0 most).2.2 ≠ 0 → Ch [some b] w w' → KP (brk at_ (rUpto bs at_ 0 most).2.2) w') : c_batch_reader_upto (some ⟨b, 0, none⟩) (most : Int) w K KP := by
  refine sim_batch_reader_upto ?_
  unfold sh_batch_reader_upto
  have hle : (rUpto bs at_ 0 most).1 ≤ most := by
    unfold rUpto
    split
    · simp
    · rcases dnum 0 0 (bs.drop at_) with ⟨n, k, d⟩
      simp only
      split
      · simp
      · split
        · simp
        · dsimp only; omega
  have z := h.nw
  refine newB fun k w1 hc1 hb1 hk1 hs1 => ?_
  have h1 := h.ch0 hc1
  refine ldP_b (o := 0) hb1 rfl (rat_ok h1.rr (ldP_b (o := 0) hb1 rfl ?_))
  rw [wrap_u64 (by omega)]
  refine rupto_ok h1.rr fun w2 hr2 hc2 => ?_
  have hc2' : Ch [some b] w1 w2 := Ch.of1 hc2
  have hb2 := hb1.ch hc2' (nin1' (by have := h.bn; omega))
  refine ldP_b (o := 0) hb2 rfl ?_
  have hc12 := Ch.tr' hc1 hc2'
  refine held_ok hr2 (fun w3 he hc3 => ?_) (fun w3 he hc3 => hP w3 he (hc12.tr0 hc3))
  rw [wrap_i64 (by omega)]
  exact hK w3 he ((h1.moved hr2 he hc2').ch0 hc3) (hc12.tr0 hc3) hle
set_option maxHeartbeats 2000000 in
set_option maxRecDepth 20000 in
theorem bset_ok {most : Nat} {K : Slc → World → Prop} {KP : List PanicEntry → World → Prop} (h : RB n w b s bs at_) (hm : most ≤ 1000)
    (hK : ∀ l w', (rSet bs at_ most).2.2 = 0 → RB n w' b s bs (rSet bs at_ most).2.1 → Ch [some b] w w' → Own w' 100 2 l (flat (rSet bs at_ most).1) → Ge w.heap.size (blkOf l) → K l w')
    (hP : ∀ w', (rSet bs at_ most).2.2 ≠ 0 → Ch [some b] w w' → KP (brk (rSet bs at_ most).2.1 (rSet bs at_ most).2.2) w') : c_batch_reader_set (some ⟨b, 0, none⟩) (most : Int) w K KP := by
  refine sim_batch_reader_set ?_
  unfold sh_batch_reader_set
  have z := h.nw
  have zb := h.bn
  unfold rSet at hK hP
  refine newB fun k w1 hc1 hb1 hk1 hs1 => ?_
  have h1 := h.ch0 hc1
  refine ldP_b (o := 0) hb1 rfl ?_
  refine bupto_ok h1 (by omega) (fun w2 he2 h2 hc2 hle => ?_) (fun w2 he2 hc2 => ?_)
  rotate_left
  · rw [if_pos he2] at hP
    exact hP w2 he2 (Ch.tr' hc1 hc2)
  rw [if_neg (by omega)] at hK hP
  generalize (rUpto bs at_ 0 most).1 = N at *
  generalize (rUpto bs at_ 0 most).2.1 = at0 at *
  have hb2 := hb1.ch hc2 (nin1' (by omega))
  refine loopP_inv (fun st w3 => ∃ (i : Nat) (acc : List Ky) (a : Nat), st.2.1 = (i : Int) ∧ i ≤ N ∧ acc.length = i ∧ st.1.l = i ∧ RB n w3 b s bs a ∧ Own w3 100 2 st.1 (flat acc) ∧ Ge w1.heap.size (blkOf st.1) ∧ Ch [some b] w1 w3 ∧ rKeys bs N [] at0 = rKeys bs (N - i) acc a) (fun st _ => N - st.2.1.toNat)
    ⟨0, [], at0, rfl, Nat.zero_le _, rfl, rfl, h2, Own.nil _ _ _, (fun k hk => by cases hk), hc2, rfl⟩ ?_
  rintro ⟨l, i0, u⟩ w3 next ⟨i, acc, a, rfl, hi, hacc, hll, h3, ho3, hg3, hc3, heq⟩ hnext
  dsimp only at hll ho3 hg3 ⊢
  have hb3 := hb1.ch hc3 (nin1' (by omega))
  have z3 := hc3.size
  refine iteB_dec (fun hh => ?_) (fun hh => ?_)
  · have hlt : i < N := by omega
    obtain ⟨m, hm'⟩ : ∃ m, N - i = m + 1 := ⟨N - i - 1, by omega⟩
    have hm2 : N - (i + 1) = m := by omega
    rw [hm', rKeys_succ] at heq
    refine ldP_b (o := 0) hb3 rfl (rat_ok h3.rr (ldP_b (o := 0) hb3 rfl ?_))
    refine rraw_ok h3.rr (by omega) fun x w4 hr4 ho4 hc4 hg4 hl4 hn4 => ?_
    have hc4' : Ch [some b] w3 w4 := Ch.of1 hc4
    have hb4 := hb3.ch hc4' (nin1' (by omega))
    have ho3' := ho3.ch hc4' (fun k hk hin => by have := hg3 k hk; have : some k = some b := hin; cases this; omega)
    refine ldP_b (o := 0) hb4 rfl ?_
    refine held_ok hr4 (fun w5 he5 hc5 => ?_) (fun w5 he5 hc5 => ?_)
    rotate_left
    · rw [if_pos he5] at heq
      rw [heq] at hP
      exact hP w5 he5 (Ch.tr' hc1 ((hc3.tr hc4').tr0 hc5))
    rw [if_neg (by omega)] at heq
    have hx10 := rRaw_len he5
    have h5 := (h3.moved hr4 he5 hc4').ch0 hc5
    have ho5 := ho3'.ch0 hc5
    have hc35 : Ch [some b] w1 w5 := (hc3.tr hc4').tr0 hc5
    refine fromB_ok (ho4.rd.ch0 hc5) hx10 fun w6 hc6 => ?_
    generalize kDec (rRaw bs a 0 10).1 = ky at *
    generalize (rRaw bs a 0 10).2.1 = a' at *
    replace h5 := h5.ch0 hc6
    replace ho5 := ho5.ch0 hc6
    replace hc35 := hc35.tr0 hc6
    refine newIn fun k7 w7 hc7 hb7 hk7 hs7 => ?_
    replace h5 := h5.ch0 hc7
    replace ho5 := ho5.ch0 hc7
    replace hc35 := hc35.tr0 hc7
    have grow : ∀ w8, Ch [] w7 w8 → (rKeys bs N [] at0 = rKeys bs m (acc ++ [ky]) a') →
        newP #[.int .i64 ky.1, .int .i64 ky.2] 100 w8 fun a36 w37 => apP Tryd.prog #[60, 60] 60 [.slice l.a l.l l.c, .slice (some a36) 1 1] w37 fun s39 w38 => next (s39, (IntKind.i64.wrap ((i : Int) + 1)), ()) w38 := fun w8 hc8 heq' => by
      have zz := (hc35.tr0 hc8).size
      refine apB TKy rfl (fun u hu => by simp at hu; rcases hu with rfl | rfl <;> rfl) (ho5.ch0 hc8) (by omega) (by omega) fun l' w9 ho9 hl9 hg9 => ?_
      obtain ⟨hc9, hf9⟩ := hg9.ch
      rw [wrap_i64 (by omega)]
      refine hnext _ _ ⟨i + 1, acc ++ [ky], a', by simp, hlt, by simp [hacc], by dsimp only; omega, (h5.ch0 hc8).chO hc9 (fun k hk => by have := hg3 k hk; have := hc1.size; omega), ?_, fun k hk => ?_, ?_, by rw [heq', hm2]⟩ (by simp; omega)
      · have : flat (acc ++ [ky]) = flat acc ++ [.int .i64 ky.1, .int .i64 ky.2] := by simp [flat]
        rw [this]; exact ho9
      · rcases hf9 k hk with g | g
        · exact hg3 k g
        · omega
      · exact (hc35.tr0 hc8).trO hc9 hg3
    refine iteB_dec (fun hpos => ?_) (fun hpos => ?_)
    · have dn := Ch.drew w7
      rw [wrap_i64 (by omega)]
      have hlast : i - 1 < acc.length := by omega
      have hrd := (ho5.ch0 dn).rdC'
      refine hrd.idx (i := i - 1) (by omega) hlast fun ad a1 a2 => ldI_of a1 (ldI_of a2 ?_)
      refine ldI_b (o := 0) (hb7.ch0 dn) rfl (ldI_b (o := 1) (hb7.ch0 dn) rfl ?_)
      refine compare_ok fun w8 hc8 => ?_
      have e1 : ((acc[i - 1].1, acc[i - 1].2) : Ky) = kAt acc (acc.length - 1) := by rw [hacc, kAt_lt hlast]
      rw [e1]
      have hcm := cmpK_neg (kAt acc (acc.length - 1)) ky
      refine iteB_dec (fun hge => ?_) (fun hge => ?_)
      · have hno : kLt (kAt acc (acc.length - 1)) ky = false := by
          rw [Bool.eq_false_iff]; intro ht; have := hcm.2 ht; have hge : cmpK (kAt acc (acc.length - 1)) ky ≥ 0 := hge; omega
        rw [if_pos ⟨by omega, hno⟩] at heq
        rw [heq] at hP
        exact hP w8 (show (65 : Int) ≠ 0 by omega) (Ch.tr' hc1 ((hc35.tr0 dn).tr0 hc8))
      · have hyes : kLt (kAt acc (acc.length - 1)) ky = true := hcm.1 (by have hge : ¬ cmpK (kAt acc (acc.length - 1)) ky ≥ 0 := hge; omega)
        rw [if_neg (by rw [hyes]; simp)] at heq
        refine ldI_b (o := 0) ((hb7.ch0 dn).ch0 hc8) rfl (ldI_b (o := 1) ((hb7.ch0 dn).ch0 hc8) rfl ?_)
        exact grow w8 (dn.tr hc8) heq
    · have dn := Ch.drew w7
      rw [if_neg (by omega)] at heq
      refine ldI_b (o := 0) (hb7.ch0 dn) rfl (ldI_b (o := 1) (hb7.ch0 dn) rfl ?_)
      exact grow _ dn heq
  · have hie : i = N := by omega
    subst hie
    rw [Nat.sub_self] at heq
    rw [heq] at hK
    exact hK l w3 rfl h3 (Ch.tr' hc1 hc3) ho3 (fun k hk => by have := hg3 k hk; have := hc1.size; omega)
/-- What a transaction that was read has: three lists of its own. -/
structure TxN (lo : Nat) (w : World) (x : Txm) (ag rs ws : Slc) : Prop where
  ia : Own w 2 1 ag (Is .i64 x.args)
  ir : Own w 100 2 rs (flat x.reads)
  iw : Own w 100 2 ws (flat x.writes)
  ga : Ge lo (blkOf ag)
  gr : Ge lo (blkOf rs)
  gw : Ge lo (blkOf ws)
  ar : Dj (blkOf ag) (blkOf rs)
  aw : Dj (blkOf ag) (blkOf ws)
  rw_ : Dj (blkOf rs) (blkOf ws)
theorem TxN.chg {lo : Nat} {S : Nat → Prop} {w w' : World} {x : Txm} {ag rs ws : Slc} (h : TxN lo w x ag rs ws) (hc : Chg S w w') (hS : ∀ k, S k → k < lo) : TxN lo w' x ag rs ws :=
  ⟨h.ia.chg hc fun k hk hs => by have := h.ga k hk; have := hS k hs; omega, h.ir.chg hc fun k hk hs => by have := h.gr k hk; have := hS k hs; omega, h.iw.chg hc fun k hk hs => by have := h.gw k hk; have := hS k hs; omega, h.ga, h.gr, h.gw, h.ar, h.aw, h.rw_⟩
set_option maxHeartbeats 2000000 in
set_option maxRecDepth 20000 in
theorem btx_ok {K : Int → Slc → Slc → Slc → World → Prop} {KP : List PanicEntry → World → Prop} (h : RB n w b s bs at_)
    (hK : ∀ ag rs ws w', (rTx bs at_).2.2 = 0 → RB n w' b s bs (rTx bs at_).2.1 → Ch [some b] w w' → TxN w.heap.size w' (rTx bs at_).1 ag rs ws → K (rTx bs at_).1.proc ag rs ws w')
    (hP : ∀ w', (rTx bs at_).2.2 ≠ 0 → Ch [some b] w w' → KP (brk (rTx bs at_).2.1 (rTx bs at_).2.2) w') : c_batch_reader_tx (some ⟨b, 0, none⟩) w K KP := by
  refine sim_batch_reader_tx ?_
  unfold sh_batch_reader_tx
  have z := h.nw
  have zb := h.bn
  unfold rTx at hK hP
  refine newB fun k1 w1 hc1 hb1 hk1 hs1 => ?_
  refine newB fun k2 w2 hc2 hb2 hk2 hs2 => ?_
  replace hb1 := hb1.ch0 hc2
  replace hc2 := hc1.tr hc2
  have h2 := h.ch0 hc2
  refine ldP_b (o := 0) hb1 rfl ?_
  refine bupto_ok (most := 63) h2 (by omega) (fun w3 he3 h3 hc3 hle3 => ?_) (fun w3 he3 hc3 => ?_)
  rotate_left
  · rw [if_pos he3] at hP
    exact hP w3 he3 (Ch.tr' hc2 hc3)
  rw [if_neg (by omega)] at hK hP
  generalize (rUpto bs at_ 0 63).1 = pr at *
  generalize (rUpto bs at_ 0 63).2.1 = a3 at *
  have hb13 := hb1.ch hc3 (nin1' (by omega))
  have hb23 := hb2.ch hc3 (nin1' (by omega))
  refine newTx fun k4 w4 hc4 hb4 hk4 hs4 => ?_
  have hc24 : Ch [some b] w2 w4 := hc3.tr0 hc4
  have h4 := h3.ch0 hc4
  have hb14 := hb13.ch0 hc4
  have hb24 := hb23.ch0 hc4
  have z2 := hc3.size
  refine ldP_b (o := 0) hb14 rfl ?_
  refine bupto_ok (most := 16) h4 (by omega) (fun w5 he5 h5 hc5 hle5 => ?_) (fun w5 he5 hc5 => ?_)
  rotate_left
  · rw [if_pos he5] at hP
    exact hP w5 he5 (Ch.tr' hc2 (hc24.tr hc5))
  rw [if_neg (by omega)] at hK hP
  generalize (rUpto bs a3 0 16).1 = na at *
  generalize (rUpto bs a3 0 16).2.1 = a5 at *
  have hb45 := hb4.ch hc5 (nin1' (by omega))
  have hb15 := hb14.ch hc5 (nin1' (by omega))
  have hb25 := hb24.ch hc5 (nin1' (by omega))
  have z4 := hc5.size
  -- the args
  refine loopP_inv (fun st w6 => ∃ (i : Nat) (acc : List Int) (a : Nat) (l : Slc), st.1 = (i : Int) ∧ i ≤ na ∧ acc.length = i ∧ l.l = i ∧ RB n w6 b s bs a ∧ Own w6 2 1 l (Is .i64 acc) ∧ Ge w4.heap.size (blkOf l) ∧ Ch [some b, some k4] w4 w6 ∧ Blk w6 k4 #[.int .i64 (pr : Int), .slice l.a l.l l.c, .slice none 0 0, .slice none 0 0] 62 ∧ rArgs bs na [] a5 = rArgs bs (na - i) acc a) (fun st _ => na - st.1.toNat)
    ⟨0, [], a5, ⟨none, 0, 0⟩, rfl, Nat.zero_le _, rfl, rfl, h5, Own.nil _ _ _, (fun k hk => by cases hk), hc5.mono fun i _ hi => .inl hi, hb45, rfl⟩ ?_
  rintro ⟨i0, u⟩ w6 next ⟨i, acc, a, l, rfl, hi, hacc, hll, h6, ho6, hg6, hc6, hb6, heq⟩ hnext
  dsimp only
  have nb4 : ∀ k, k ≠ b → k ≠ k4 → ¬ inL [some b, some k4] k := fun k h1 h2 hin => by
    rcases (show some k = some b ∨ some k = some k4 from hin) with hin | hin
    · cases hin; exact h1 rfl
    · cases hin; exact h2 rfl
  have hb16 := hb14.ch hc6 (nb4 k1 (by omega) (by omega))
  have hb26 := hb24.ch hc6 (nb4 k2 (by omega) (by omega))
  have z6 := hc6.size
  have hcw6 : Ch [some b] w w6 := Ch.trans (Ch.tr' hc2 hc24) hc6 fun j hj hin => by
    rcases (show some j = some b ∨ some j = some k4 from hin) with hin | hin
    · exact hin
    · cases hin; omega
  refine iteB_dec (fun hh => ?_) (fun hh => ?_)
  · have hlt : i < na := by omega
    obtain ⟨m, hm'⟩ : ∃ m, na - i = m + 1 := ⟨na - i - 1, by omega⟩
    have hm2 : na - (i + 1) = m := by omega
    rw [hm', rArgs_succ] at heq
    refine ldP_b (o := 0) hb16 rfl (rat_ok h6.rr (ldP_b (o := 0) hb16 rfl ?_))
    refine rint_ok h6.rr fun w7 hr7 hc7 => ?_
    have hc7' : Ch [some b] w6 w7 := Ch.of1 hc7
    refine ldP_b (o := 0) (hb16.ch hc7' (nin1' (by omega))) rfl ?_
    refine held_ok hr7 (fun w8 he8 hc8 => ?_) (fun w8 he8 hc8 => ?_)
    rotate_left
    · rw [if_pos he8] at heq
      rw [heq] at hP
      dsimp only at hP
      rw [if_pos he8] at hP
      exact hP w8 he8 ((hcw6.tr hc7').tr0 hc8)
    rw [if_neg (by omega)] at heq
    have h8 := (h6.moved hr7 he8 hc7').ch0 hc8
    have hc68 : Ch [some b] w6 w8 := hc7'.tr0 hc8
    have hb8 := hb6.ch hc68 (nin1' (by omega))
    have ho8 := ho6.ch hc68 (fun k hk hin => by have := hg6 k hk; have : some k = some b := hin; cases this; omega)
    generalize unz (rUpto bs a 0 18446744073709551615).1 = v at *
    generalize (rUpto bs a 0 18446744073709551615).2.1 = a' at *
    refine ldS_b (o := 1) (s := l) hb8 rfl ?_
    refine apB TI6 (cells := #[.int .i64 v]) rfl (fun u hu => by simp at hu; subst hu; rfl) ho8 (by omega) (by omega) fun l' w9 ho9 hl9 hg9 => ?_
    obtain ⟨hc9, hf9⟩ := hg9.ch
    have z8 := hc68.size
    have l4 := hb4.lt
    have lk : ∀ k, blkOf l = some k → k ≠ k4 := fun k hk he => by
      subst he
      have := hg6 k hk; omega
    have hb9 := hb8.ch hc9 (fun hin => lk k4 (show some k4 = blkOf l from hin).symm rfl)
    have z9 := hc9.size
    refine stB (o := 1) hb9 (by simp) fun w10 hc10 hb10 hz10 => ?_
    have gl' : Ge w4.heap.size (blkOf l') := fun k hk => by
      rcases hf9 k hk with g | g
      · exact hg6 k g
      · omega
    rw [wrap_i64 (by omega)]
    refine hnext _ _ ⟨i + 1, acc ++ [v], a', l', by simp, hlt, by simp [hacc], by omega, (h8.chO hc9 (fun k hk => by have := hg6 k hk; omega)).chO hc10 (fun k hk => by cases hk; omega), ?_, gl', ?_, hb10, by rw [heq, hm2]⟩ (by simp; omega)
    · have : Is .i64 (acc ++ [v]) = Is .i64 acc ++ [.int .i64 v] := by simp [Is]
      rw [this]
      exact ho9.ch hc10 fun k hk hin => by have := gl' k hk; have : some k = some k4 := hin; cases this; omega
    · refine Ch.trans (Ch.trans (Ch.trans hc6 hc68 fun j hj hin => .inl hin) hc9 fun j hj hin => ?_) hc10 fun j hj hin => .inr hin
      have := hg6 j (show some j = blkOf l from hin).symm; omega
  · have hie : i = na := by omega
    subst hie
    rw [Nat.sub_self] at heq
    have heq : rArgs bs i [] a5 = (acc, a, 0) := heq
    rw [heq] at hK hP
    dsimp only at hK hP
    rw [if_neg (by simp)] at hK hP
    have l4 := hb4.lt
    refine ldP_b (o := 0) hb16 rfl (bset_ok (most := 16) h6 (by omega) (fun r w7 he7 h7 hc7 hor hgr => ?_) (fun w7 he7 hc7 => ?_))
    rotate_left
    · generalize rSet bs a 16 = q at *
      obtain ⟨q1, q2, q3⟩ := q
      dsimp only at he7 hP ⊢
      rw [if_pos he7] at hP
      exact hP w7 he7 (hcw6.tr hc7)
    generalize rSet bs a 16 = q at *
    obtain ⟨q1, q2, q3⟩ := q
    dsimp only at he7 hP hK h7 hor
    rw [if_neg (by omega)] at hK hP
    have z7 := hc7.size
    have hb7 := hb6.ch hc7 (nin1' (by omega))
    have hb17 := hb16.ch hc7 (nin1' (by omega))
    have hb27 := hb26.ch hc7 (nin1' (by omega))
    have ho7 := ho6.ch hc7 (fun k hk hin => by have := hg6 k hk; have : some k = some b := hin; cases this; omega)
    refine stB (o := 2) hb7 (by simp) fun w8 hc8 hb8 hz8 => ?_
    have h8 := h7.chO hc8 (fun k hk => by cases hk; omega)
    have ho8 := ho7.ch hc8 (fun k hk => nin1' (by have := hg6 k hk; omega))
    have hor8 := hor.ch hc8 (fun k hk => nin1' (by have := hgr k hk; omega))
    have hb18 := hb17.ch hc8 (nin1' (by omega))
    have hb28 := hb27.ch hc8 (nin1' (by omega))
    have hcw8 : Ch [some b] w w8 := (hcw6.tr hc7).trN hc8 (by omega)
    refine ldP_b (o := 0) hb18 rfl (bset_ok (most := 16) h8 (by omega) (fun q w9 he9 h9 hc9 hoq hgq => ?_) (fun w9 he9 hc9 => ?_))
    rotate_left
    · generalize rSet bs q2 16 = q at *
      obtain ⟨p1, p2, p3⟩ := q
      dsimp only at he9 hP ⊢
      rw [if_pos he9] at hP
      exact hP w9 he9 (hcw8.tr hc9)
    generalize rSet bs q2 16 = q' at *
    obtain ⟨p1, p2, p3⟩ := q'
    dsimp only at he9 hP hK h9 hoq
    rw [if_neg (by omega)] at hK hP
    have z9 := hc9.size
    have hb9 := hb8.ch hc9 (nin1' (by omega))
    have hb29 := hb28.ch hc9 (nin1' (by omega))
    have nb : ∀ (k : Nat), w.heap.size ≤ k → ¬ inL [some b] k := fun k hk => nin1' (by omega)
    have ho9 := ho8.ch hc9 (fun k hk => nb k (by have := hg6 k hk; omega))
    have hor9 := hor8.ch hc9 (fun k hk => nb k (by have := hgr k hk; omega))
    refine stB (o := 3) hb9 (by simp) fun w10 hc10 hb10 hz10 => ?_
    have h10 := h9.chO hc10 (fun k hk => by cases hk; omega)
    have ho10 := ho9.ch hc10 (fun k hk => nin1' (by have := hg6 k hk; omega))
    have hor10 := hor9.ch hc10 (fun k hk => nin1' (by have := hgr k hk; omega))
    have hoq10 := hoq.ch hc10 (fun k hk => nin1' (by have := hgq k hk; omega))
    have hb210 := hb29.ch hc10 (nin1' (by omega))
    have hcw10 : Ch [some b] w w10 := (hcw8.tr hc9).trN hc10 (by omega)
    have hbx : Blk w10 k4 #[.int .i64 (pr : Int), .slice l.a l.l l.c, .slice r.a r.l r.c, .slice q.a q.l q.c] 62 := hb10
    refine ldI_b (o := 0) hbx rfl (ldS_b (o := 1) (s := l) hbx rfl (ldS_b (o := 2) (s := r) hbx rfl (ldS_b (o := 3) (s := q) hbx rfl ?_)))
    refine stB (o := 0) hb210 (by simp) fun w11 hc11 hb11 _ => stB hb11 (by simp) fun w12 hc12 hb12 _ => stB hb12 (by simp) fun w13 hc13 hb13 _ => stB hb13 (by simp) fun w14 hc14 hb14 _ => ?_
    have hcz : Ch [some k2] w10 w14 := ((hc11.tr hc12).tr hc13).tr hc14
    have hby : Blk w14 k2 #[.int .i64 (pr : Int), .slice l.a l.l l.c, .slice r.a r.l r.c, .slice q.a q.l q.c] 62 := hb14
    refine ldI_b (o := 0) hby rfl (ldS_b (o := 1) (s := l) hby rfl (ldS_b (o := 2) (s := r) hby rfl (ldS_b (o := 3) (s := q) hby rfl ?_)))
    have pl := ho6.ltS
    have prs := hor.ltS
    refine hK l r q w14 rfl (h10.chO hcz (fun k hk => by cases hk; omega)) (hcw10.trN hcz (by omega)) ⟨?_, ?_, ?_, fun k hk => ?_, fun k hk => ?_, fun k hk => ?_, fun k h1 h2 => ?_, fun k h1 h2 => ?_, fun k h1 h2 => ?_⟩
    · exact ho10.ch hcz (fun k hk => nin1' (by have := hg6 k hk; omega))
    · exact hor10.ch hcz (fun k hk => nin1' (by have := hgr k hk; omega))
    · exact hoq10.ch hcz (fun k hk => nin1' (by have := hgq k hk; omega))
    · have := hg6 k hk; omega
    · have := hgr k hk; omega
    · have := hgq k hk; omega
    · have := pl k h1; have := hgr k h2; omega
    · have := pl k h1; have := hgq k h2; omega
    · have := prs k h1; have := hgq k h2; omega
end
end Go.Proofs.YtlnhecbgjjglfaaDoor
