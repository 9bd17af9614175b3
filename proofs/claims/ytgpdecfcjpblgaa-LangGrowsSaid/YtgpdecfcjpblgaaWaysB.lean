/- WaysB: awake; after; the law LangWays. -/
import Derived.Test.YtgpdecfcjpblgaaWays
set_option linter.unusedVariables false
set_option linter.unusedSimpArgs false
namespace Go.Lang
open Go.Num
def trL : List Pc := [⟨ByteArray.mk #[110, 111, 116, 104, 105, 110, 103], ⟨0, 0, 0, 0, []⟩⟩, ⟨ByteArray.mk #[112, 117, 116], ⟨1, 0, 1, 0, [(6, 0), (32, 0)]⟩⟩]
theorem tr_chk : checkT trL = (0, 0) := by decide +kernel
theorem tr_long : longest 1 0 1 0 [(6, 0), (32, 0)] = (2, 0) := by decide +kernel
theorem tr_enc : encT trL = ([80, 82, 76, 49, 2, 7, 110, 111, 116, 104, 105, 110, 103, 0, 0, 0, 0, 0, 3, 112, 117, 116, 1, 0, 1, 0, 2, 6, 32], 0) := by
  unfold encT
  rw [tr_chk]
  simp [trL, pcB, headB, putT, okP, opOk, hdB, hdI, insB, encU_low, ByteArray.size]
end Go.Lang
namespace Go.Proofs.Ytgpdecfcjpblgaa
open Go Go.Sh Go.Pl Go.RowKit Go.Lang Go.Names Go.Num Go.Gt
theorem transfer_ok {w : World} {K : Slc → World → Prop} (hK : ∀ s w', RdL w' s trL → Ch [] w w' → K s w') : c_preludelaw03_transfer w K := by
  refine sim_preludelaw03_transfer ?_
  unfold sh_preludelaw03_transfer
  refine newB fun k1 w1 hc1 hb1 hk1 hs1 => ?_
  refine newB fun k2 w2 hc2 hb2 hk2 hs2 => ?_
  have hb12 := hb1.ch0 hc2
  refine hK _ w2 ⟨rfl, Nat.le_refl _, fun i x hx => ?_⟩ (hc1.tr hc2)
  have hi := (List.getElem?_eq_some_iff.1 hx).1
  have c : ∀ o, w2.cell? ⟨k2, o, none⟩ = _ := fun o => hb2.cell o
  match i, hi with
  | 0, _ =>
    cases hx
    refine ⟨⟨k2, 0, none⟩, ⟨none, 0, 0⟩, rfl, ?_⟩
    rw [add_mk]
    exact ⟨c 0, by rw [add_mk]; exact c 1, by rw [add_mk]; exact c 2, by rw [add_mk]; exact c 3, by rw [add_mk]; exact c 4, by rw [add_mk]; exact c 5, RdC.nil rfl, by decide, fun _ => rfl⟩
  | 1, _ =>
    cases hx
    refine ⟨⟨k2, 0, none⟩, ⟨some ⟨k1, 0, none⟩, 2, 2⟩, rfl, ?_⟩
    rw [add_mk]
    refine ⟨c 6, by rw [add_mk]; exact c 7, by rw [add_mk]; exact c 8, by rw [add_mk]; exact c 9, by rw [add_mk]; exact c 10, by rw [add_mk]; exact c 11, ?_, by decide, fun h => by cases h⟩
    exact hb12.rdC (cs := [(6, 0), (32, 0)]) (fun j v hv => by simpa [flat] using hv) (Nat.le_refl _)
set_option maxRecDepth 20000 in
theorem awake_ok {w : World} {K : Bool → World → Prop} (hK : ∀ w', Ch [] w w' → K true w') : c_preludelaw03_awake w K := by
  refine sim_preludelaw03_awake ?_
  unfold sh_preludelaw03_awake
  refine transfer_ok fun s1 w1 h1 hc1 => ?_
  refine check_ok h1 fun w2 hc2 => ?_
  refine transfer_ok fun s3 w3 h3 hc3 => ?_
  refine encode_ok h3 (fun x hx => ?_) fun s4 w4 ho4 hc4 hg4 => ?_
  · simp [trL] at hx
    rcases hx with rfl | rfl
    · intro y hy; cases hy
    · intro y hy
      simp at hy
      rcases hy with rfl | rfl <;> simp
  refine transfer_ok fun s5 w5 h5 hc5 => ?_
  obtain ⟨ad, cs, hp, hidx⟩ := h5.at' (i := 1) (by decide)
  refine hidx _ _ rfl ?_
  refine ldPc hp ?_
  refine longest_ok hp.rd hp.few fun w6 hc6 => ?_
  have e1 : trL[1].p = ⟨1, 0, 1, 0, [(6, 0), (32, 0)]⟩ := rfl
  rw [e1]
  rw [tr_chk, tr_enc, tr_long]
  rw [tr_enc] at ho4
  refine iteB_pos rfl (iteB_pos rfl (iteB_pos rfl (iteB_pos rfl (iteB_pos rfl ?_))))
  replace ho4 := (ho4.ch0 hc5).ch0 hc6
  have hcc : Ch [] w w6 := ((((hc1.tr hc2).tr hc3).tr hc4).tr hc5).tr hc6
  have l4 : s4.l = 29 := U8_own ho4
  refine iteB_pos (by rw [l4]; rfl) ?_
  have hr := ho4.rd
  refine hr.sl (l := 0) (u := 4) rfl rfl (by omega) (by simp) fun p hp2 _ => ?_
  rw [U8_part] at hp2
  refine ⟨_, w6, to_str TU8.und u8T strT hp2, ?_⟩
  refine iteB_pos (by decide +kernel) ?_
  refine hr.idx (by omega) (by simp) fun ad2 had => ?_
  refine ldI_of (n := 2) (by rw [had]; rfl) (hK w6 hcc)
set_option maxHeartbeats 4000000 in
theorem after_ok {op n : Int} {w : World} {K : Int → World → Prop} (h0 : 0 ≤ op) (h1 : op < 37) (hn : 0 ≤ n ∧ n ≤ 32) (hK : K (afterT op n) w) : c_preludelaw03_after op n w K := by
  refine sim_preludelaw03_after ?_
  unfold sh_preludelaw03_after
  rw [wrap_i64 (x := n - 0) (by omega), wrap_i64 (x := n - 1) (by omega), wrap_i64 (x := n - 2) (by omega)]
  rw [wrap_i64 (x := n - 0 + 0) (by omega), wrap_i64 (x := n - 0 + 1) (by omega), wrap_i64 (x := n - 1 + 0) (by omega), wrap_i64 (x := n - 1 + 1) (by omega), wrap_i64 (x := n - 1 + 2) (by omega), wrap_i64 (x := n - 2 + 0) (by omega), wrap_i64 (x := n - 2 + 1) (by omega)]
  have fin : ∀ t l : Int, mv op = (t, l) → iteB (decide ((n : Int) < t)) (K (-1) w) (iteB (decide (((n - t + l) : Int) > 32)) (K (-1) w) (K (n - t + l) w)) := fun t l he => by
    unfold afterT at hK
    rw [he] at hK
    refine iteB_dec (fun h => ?_) (fun h => ?_)
    · rwa [if_pos (.inl h)] at hK
    · refine iteB_dec (fun h' => ?_) (fun h' => ?_)
      · rwa [if_pos (.inr h')] at hK
      · have hno : ¬ (n < t ∨ n - t + l > 32) := by omega
        simp only [] at hK
        rwa [if_neg hno] at hK
  clear hK
  rcases op_cases h0 h1 with rfl | rfl | rfl | rfl | rfl | rfl | rfl | rfl | rfl | rfl | rfl | rfl | rfl | rfl | rfl | rfl | rfl | rfl | rfl | rfl | rfl | rfl | rfl | rfl | rfl | rfl | rfl | rfl | rfl | rfl | rfl | rfl | rfl | rfl | rfl | rfl | rfl <;> exact fin _ _ rfl
set_option maxRecDepth 20000 in
set_option maxHeartbeats 1000000 in
theorem law_LangWays {a b c d x1 : Int} {s : Slc} {ms : Mo insG} {w : World} (w0 : (Lit.int .i64 a).wf = true) (w1 : (Lit.int .i64 b).wf = true) (w2 : (Lit.int .i64 c).wf = true) (w3 : (Lit.int .i64 d).wf = true)
    (k4 : Gt.Rep reachBytes w insG [.slice s.a s.l s.c] ms) (w5 : (Lit.int .u64 x1).wf = true) : c_preludelaw03_LangWays a b c d s x1 w fun r w' => r = true ∧ Chg Nil w w' := by
  refine sim_preludelaw03_LangWays ?_
  unfold sh_preludelaw03_LangWays
  obtain ⟨hs, h64, hsn, hsc⟩ := rep_code k4
  have hsl := hs.cap
  have ls := hs.len
  have hre : reachBytes = 140737488351232 := rfl
  generalize code ms = is at *
  have hl : is.length ≤ 8800000000000 := by omega
  refine newB fun k1 w1 hc1 hb1 hk1 hs1 => ?_
  refine awake_ok fun w2 hc2 => iteB_neg rfl ?_
  replace hb1 := hb1.ch0 hc2
  replace hc2 := hc1.tr hc2
  refine ldPr (s := s) hb1 ?_
  refine depths_ok (hs.ch0 hc2) hl fun sd w3 hd3 hc3 => ?_
  replace hb1 := hb1.ch0 hc3
  replace hc3 := hc2.tr hc3
  refine ldPr (s := s) hb1 ?_
  refine longest_ok (hs.ch0 hc3) hl fun w4 hc4 => ?_
  replace hb1 := hb1.ch0 hc4
  replace hd3 := hd3.ch0 hc4
  replace hc4 := hc3.tr hc4
  refine ldPr (s := s) hb1 ?_
  refine verify_ok (hs.ch0 hc4) hl fun w5 hc5 => ?_
  replace hb1 := hb1.ch0 hc5
  replace hd3 := hd3.ch0 hc5
  replace hc5 := hc4.tr hc5
  refine iteB_neg (by simp) ?_
  by_cases he : (depths a b c d is).2 = 0
  · have hlg := longest_eq he
    rw [hlg, he]
    refine iteB_neg rfl (iteB_neg rfl ?_)
    obtain ⟨hDl, hD0, hD⟩ := depths_spec he
    obtain ⟨hw, hops⟩ := fwd_of he
    obtain ⟨hLl, hL⟩ := longL_spec hw
    have h256 := (okP_rng (depths_ok0 he).1).2.2.2.2
    have hDr := hd3.rd
    have lD := hd3.len
    generalize (depths a b c d is).1 = D at *
    have hL0 : (longL is)[0]? = some ((longL is)[0]?.getD 0) := by rw [List.getElem?_eq_getElem (by omega)]; rfl
    generalize (longL is)[0]?.getD 0 = most at *
    generalize longL is = L at *
    refine ldS_b (s := s) hb1 rfl ?_
    refine iteB_neg (by rw [wrap_i64 (by omega)]; simp; omega) ?_
    refine loopP_inv (fun st w6 => ∃ (at_ steps : Nat) (n lv : Int), st.2.1 = (at_ : Int) ∧ st.2.2.1 = n ∧ st.2.2.2.1 = (steps : Int) ∧ at_ ≤ is.length ∧ (0 ≤ n ∧ n ≤ 32) ∧ D[at_]? = some n ∧ L[at_]? = some lv ∧ (steps : Int) + lv ≤ most ∧ steps ≤ at_ ∧ Ch [] w5 w6) (fun st _ => is.length - st.2.1.toNat)
      ⟨0, 0, 0, most, rfl, rfl, rfl, Nat.zero_le _, by omega, hD0, hL0, by omega, Nat.le_refl _, Ch.refl _ _⟩ ?_
    rintro ⟨tu, at0, n, st0, u⟩ w6 next ⟨at_, steps, n', lv, rfl, hnn, rfl, hat, hn, hDn, hLv, hst, hsa, hc6⟩ hnext
    obtain rfl : n = n' := hnn
    dsimp only
    replace hb1 := hb1.ch0 hc6
    replace hDr := hDr.ch0 hc6
    have hc06 := hc5.tr hc6
    refine ldS_b (s := s) hb1 rfl ?_
    refine iteB_dec (fun h => ?_) (fun h => ?_)
    · have hlt : at_ < is.length := by omega
      have hx : is[at_]? = some is[at_] := by simp
      obtain ⟨q, hq, hstep⟩ := hD at_ is[at_] hx
      rw [hDn] at hq
      cases hq
      obtain ⟨t1, t2, t3⟩ := hstep hn.1
      obtain ⟨v, hv, hv1, hvt⟩ := hL at_ is[at_] hx
      rw [hLv] at hv
      cases hv
      have hop := hops at_ is[at_] hx
      have hway := hw at_ is[at_] hx
      refine ldS_b (s := s) hb1 rfl ?_
      refine (hs.ch0 hc06).idx rfl hlt fun ad h1 h2 => ldI_of h1 (ldI_of h2 ?_)
      refine newIn fun k7 w7 hc7 hb7 hk7 hs7 => ?_
      refine (hDr.ch0 hc7).get (v := n) (by omega) (by rw [Int.toNat_natCast]; exact hDn) (iteB_neg (by simp) ?_)
      refine iteB_neg (by simp; omega) ?_
      refine ldI_b (o := 0) hb7 rfl (after_ok hop.1 hop.2 hn ?_)
      have hmv := mv_rng is[at_].1
      have eaf : afterT is[at_].1 n = n - (mv is[at_].1).1 + (mv is[at_].1).2 := by
        unfold afterT
        have : ¬ (n < (mv is[at_].1).1 ∨ n - (mv is[at_].1).1 + (mv is[at_].1).2 > 32) := by omega
        rw [if_neg this]
      rw [eaf]
      have hm : 0 ≤ n - (mv is[at_].1).1 + (mv is[at_].1).2 ∧ n - (mv is[at_].1).1 + (mv is[at_].1).2 ≤ 32 := by omega
      generalize n - (mv is[at_].1).1 + (mv is[at_].1).2 = m at *
      refine iteB_neg (by simp; omega) ?_
      have hc07 := hc06.tr hc7
      have hc57 := hc6.tr hc7
      have go : ∀ (t : Int) (tu' : Int), t ∈ wy is[at_] at_ → next (tu', t, m, (IntKind.i64.wrap ((steps : Int) + 1)), ()) w7 := fun t tu' ht => by
        have ht1 := hway t ht
        obtain ⟨u, hu, hul⟩ := hvt t ht
        rw [wrap_i64 (by omega)]
        refine hnext _ _ ⟨t.toNat, steps + 1, m, u, by simp only []; omega, rfl, by simp, by omega, hm, t3 t ht, hu, by omega, by omega, hc57⟩ (by simp only []; omega)
      generalize is[at_] = x at *
      unfold wy at go hway
      refine ldI_b (o := 0) hb7 rfl (iteB_eq (fun h => ⟨rfl, hc07⟩) (fun g0 => ?_))
      refine ldI_b (o := 0) hb7 rfl (iteB_eq (fun h => ⟨rfl, hc07⟩) (fun g36 => ?_))
      have hn36 : ¬ (x.1 = 0 ∨ x.1 = 36) := by omega
      rw [if_neg hn36] at go hway
      refine ldI_b (o := 0) hb7 rfl (iteB_eq (fun h30 => ?_) (fun g30 => ?_))
      · rw [if_pos h30] at go hway
        have hA := hway x.2 (by simp)
        refine ldI_b hb7 rfl (iteB_dec (fun h => by omega) (fun _ => ?_))
        refine ldI_b hb7 rfl (ldS_b (s := s) (hb1.ch0 hc7) rfl (iteB_dec (fun h => by omega) (fun _ => ?_)))
        refine ldI_b hb7 rfl (ldI_b (o := 0) hb7 rfl (iteB_eq (fun h => by omega) (fun _ => ?_)))
        exact go x.2 _ (by simp)
      · rw [if_neg g30] at go hway
        have wat : IntKind.i64.wrap ((at_ : Int) + 1) = (at_ : Int) + 1 := wrap_i64 (by omega)
        rw [wat]
        refine ldI_b (o := 0) hb7 rfl (iteB_eq (fun h31 => ?_) (fun g31 => ?_))
        · rw [if_pos h31] at go hway
          have hA := hway x.2 (by simp)
          refine iteB_eq (fun _ => ?_) (fun _ => ?_)
          · refine ldI_b hb7 rfl (iteB_dec (fun h => by omega) (fun _ => ?_))
            refine ldI_b hb7 rfl (ldS_b (s := s) (hb1.ch0 hc7) rfl (iteB_dec (fun h => by omega) (fun _ => ?_)))
            refine ldI_b hb7 rfl (ldI_b (o := 0) hb7 rfl (iteB_eq (fun h => ⟨by omega, go x.2 _ (by simp)⟩) (fun h => by omega)))
          · exact ldI_b (o := 0) hb7 rfl (iteB_eq (fun h => ⟨by omega, go _ _ (by simp)⟩) (fun h => by omega))
        · rw [if_neg g31] at go
          exact ldI_b (o := 0) hb7 rfl (iteB_eq (fun h => by omega) (fun _ => go _ _ (by simp)))
    · have hie : at_ = is.length := by omega
      subst hie
      refine ldS_b (s := s) hb1 rfl (iteB_pos (by simp; omega) ?_)
      refine hDr.get (v := n) (by omega) (by rw [Int.toNat_natCast]; exact hDn) ⟨by simp, hc06⟩
  · have hlg : longest a b c d is = (0, (depths a b c d is).2) := by unfold longest; rw [if_pos he]
    rw [hlg]
    refine iteB_neg (by simp) (iteB_pos (by simpa using he) ?_)
    have l0 : sd.l = 0 := by
      have := hd3.len
      rw [depths_e he] at this
      exact this
    exact iteB_pos (by rw [l0]; rfl) ⟨rfl, hc5⟩
end Go.Proofs.Ytgpdecfcjpblgaa
