/- Mr: what the document's Reader's calls come to. -/
import Derived.Test.YtlnhecbgjjglfaaDoorRd
set_option linter.unusedVariables false
set_option linter.unusedSimpArgs false
namespace Go.Proofs.YtlnhecbgjjglfaaDoor
open Go Go.Sh Go.Pl Go.RowKit Go.Num
/-- The document's Reader of these bytes, at a place, with an error. -/
structure Mr (w : World) (b : Nat) (s : Slc) (bs : List UInt8) (at_ : Nat) (e : Int) : Prop where
  blk : Blk w b #[.slice s.a s.l s.c, .int .i64 (at_ : Int), .int .i64 e] 56
  rd : Rd w s (U8 bs)
  ne : bs ≠ [] → blkOf s ≠ some b
  le : at_ ≤ bs.length
  few : bs.length ≤ 140737488351232
theorem rdE {S : Nat → Prop} {w w' : World} {s : Slc} {bs : List UInt8} (h : Rd w s (U8 bs)) (hc : Chg S w w') (hn : bs ≠ [] → ∀ k, blkOf s = some k → ¬ S k) : Rd w' s (U8 bs) := by
  cases bs with
  | nil => exact ⟨h.len, h.cap, fun i hi => by simp at hi⟩
  | cons x r => exact h.chg hc (hn (by simp))
theorem Mr.chgE {S : Nat → Prop} {w w' : World} {b : Nat} {s : Slc} {bs : List UInt8} {at_ : Nat} {e : Int} (h : Mr w b s bs at_ e) (hc : Chg S w w') (hb : ¬ S b) (hs : bs ≠ [] → ∀ k, blkOf s = some k → ¬ S k) : Mr w' b s bs at_ e := ⟨h.blk.chg hc hb, rdE h.rd hc hs, h.ne, h.le, h.few⟩
theorem Mr.len {w : World} {b : Nat} {s : Slc} {bs : List UInt8} {at_ : Nat} {e : Int} (h : Mr w b s bs at_ e) : s.l = bs.length := by have := h.rd.len; simpa using this
theorem Mr.chg {S : Nat → Prop} {w w' : World} {b : Nat} {s : Slc} {bs : List UInt8} {at_ : Nat} {e : Int} (h : Mr w b s bs at_ e) (hc : Chg S w w') (hb : ¬ S b) (hs : ∀ k, blkOf s = some k → ¬ S k) : Mr w' b s bs at_ e := ⟨h.blk.chg hc hb, h.rd.chg hc hs, h.ne, h.le, h.few⟩
theorem Mr.nil {w w' : World} {b : Nat} {s : Slc} {bs : List UInt8} {at_ : Nat} {e : Int} (h : Mr w b s bs at_ e) (hc : Chg Nil w w') : Mr w' b s bs at_ e := h.chg hc (fun h => h) fun _ _ h => h
theorem Mr.drew {w : World} {b : Nat} {s : Slc} {bs : List UInt8} {at_ : Nat} {e : Int} (h : Mr w b s bs at_ e) : Mr w.drew b s bs at_ e := h.nil ((Drw.refl w).drew.chg Nil)
theorem Mr.c0 {w : World} {b : Nat} {s : Slc} {bs : List UInt8} {at_ : Nat} {e : Int} (h : Mr w b s bs at_ e) : w.cell? ⟨b, 0, none⟩ = some (.slice s.a s.l s.c) := by rw [h.blk.cell]; rfl
theorem Mr.c1 {w : World} {b : Nat} {s : Slc} {bs : List UInt8} {at_ : Nat} {e : Int} (h : Mr w b s bs at_ e) : w.cell? ((⟨b, 0, none⟩ : Addr).add 1) = some (.int .i64 (at_ : Int)) := by rw [add_mk, h.blk.cell]; rfl
theorem Mr.c2 {w : World} {b : Nat} {s : Slc} {bs : List UInt8} {at_ : Nat} {e : Int} (h : Mr w b s bs at_ e) : w.cell? ((⟨b, 0, none⟩ : Addr).add 2) = some (.int .i64 e) := by rw [add_mk, h.blk.cell]; rfl
theorem Mr.set1 {w : World} {b : Nat} {s : Slc} {bs : List UInt8} {at_ at2 : Nat} {e : Int} {v : Int} {K : World → Prop} (h : Mr w b s bs at_ e) (hv : v = (at2 : Int)) (h2 : at2 ≤ bs.length) (hK : ∀ w', Mr w' b s bs at2 e → Chg (Of b) w w' → K w') : stP ((⟨b, 0, none⟩ : Addr).add 1) (.int .i64 v) w K := by
  subst hv
  rw [add_mk]
  refine stP_intro h.blk (by simp) fun w' hc hb _ => hK w' ⟨by simpa using hb, rdE h.rd hc fun hne k hk he => h.ne hne (by subst he; exact hk), h.ne, h2, h.few⟩ hc
theorem Mr.set2 {w : World} {b : Nat} {s : Slc} {bs : List UInt8} {at_ : Nat} {e e2 : Int} {K : World → Prop} (h : Mr w b s bs at_ e) (hK : ∀ w', Mr w' b s bs at_ e2 → Chg (Of b) w w' → K w') : stP ((⟨b, 0, none⟩ : Addr).add 2) (.int .i64 e2) w K := by
  rw [add_mk]
  refine stP_intro h.blk (by simp) fun w' hc hb _ => hK w' ⟨by simpa using hb, rdE h.rd hc fun hne k hk he => h.ne hne (by subst he; exact hk), h.ne, h.le, h.few⟩ hc

theorem add_step {n i : Nat} (c : UInt8) (hn : n < 2 ^ (7 * i)) (hi : i ≤ 9) (h9 : i = 9 → c.toNat ≤ 1) :
    IntKind.u64.wrap ((n : Int) + (IntKind.u64.wrap ((IntKind.u64.wrap (Int.tmod (c.toNat : Int) 128)) * 2 ^ (min (Int.toNat (IntKind.i64.wrap (7 * (i : Int)))) (IntKind.bits .u64))))) = ((n + c.toNat % 128 * 2 ^ (7 * i) : Nat) : Int) := by
  have h2 := (or_step c hn hi h9).2
  have hc := c.toNat_lt
  have e1 : min (Int.toNat (IntKind.i64.wrap (7 * (i : Int)))) (IntKind.bits .u64) = 7 * i := by
    rw [wrap_i64 (by omega)]; simp only [IntKind.bits]; omega
  have em : Int.tmod (c.toNat : Int) 128 = ((c.toNat % 128 : Nat) : Int) := by rw [Int.tmod_eq_emod_of_nonneg (by omega)]; omega
  rw [e1, em, wrap_u64 (x := ((c.toNat % 128 : Nat) : Int)) (by omega)]
  have e2 : (((c.toNat % 128 : Nat) : Int) * 2 ^ (7 * i)) = ((c.toNat % 128 * 2 ^ (7 * i) : Nat) : Int) := by simp
  rw [e2]
  generalize c.toNat % 128 * 2 ^ (7 * i) = q at *
  rw [wrap_u64 (x := (q : Int)) (by omega), wrap_u64 (by omega)]
  omega
set_option maxRecDepth 20000 in
theorem number_ok {w : World} {s : Slc} {c : List UInt8} {K : Int → Int → Int → World → Prop} (hs : Rd w s (U8 c)) (hK : ∀ n k d, dnum 0 0 c = (n, k, d) → K (n : Int) (k : Int) d w) : c_preluderef01_number s w K := by
  refine sim_preluderef01_number ?_
  unfold sh_preluderef01_number
  have hlen := hs.len
  simp only [U8_length] at hlen
  refine loopP_inv (fun st w1 => w1 = w ∧ ∃ n i : Nat, st.1 = (n : Int) ∧ st.2.1 = (i : Int) ∧ i ≤ 9 ∧ i ≤ c.length ∧ n < 2 ^ (7 * i) ∧ dnum i n (c.drop i) = dnum 0 0 c) (fun st _ => 10 - st.2.1.toNat) ⟨rfl, 0, 0, rfl, rfl, by omega, by omega, by simp, by simp⟩ ?_
  rintro ⟨n0, i0, u⟩ w1 next ⟨rfl, n, i, rfl, rfl, hi, hai, hn, hdec⟩ hnext
  dsimp only
  refine iteB_pos (by simp; omega) ?_
  refine iteB_intro (fun hz => ?_) (fun hz => ?_)
  · have hge : i = c.length := by simp [hlen] at hz; omega
    rw [List.drop_eq_nil_of_le (by omega)] at hdec
    exact hK 0 0 10 (by rw [← hdec]; rfl)
  · have hlt : i < c.length := by simp [hlen] at hz; omega
    have rd : ∀ {K : Addr → Prop}, (∀ ad, w1.cell? ad = some (.int .u8 (c[i].toNat : Int)) → K ad) → idxP s.a s.l (i : Int) 1 K := fun hk => hs.idx (by omega) (by simp; omega) fun ad had => hk ad (by rw [had, Int.toNat_natCast, U8_at c hlt])
    generalize hc : c[i] = x at *
    rw [List.drop_eq_getElem_cons hlt, hc] at hdec
    have form : ((i = 9 ∧ x.toNat > 1) ∨ (i > 0 ∧ x.toNat = 0)) → K 0 0 11 w1 := fun hbad => hK 0 0 11 (by rw [← hdec]; unfold dnum; rw [if_pos hbad])
    have leaf : ¬ ((i = 9 ∧ x.toNat > 1) ∨ (i > 0 ∧ x.toNat = 0)) →
        idxP s.a s.l (i : Int) 1 fun a10 => ldI .u8 a10 w1 fun n11 => dzP 128 (shP (IntKind.i64.wrap (7 * (i : Int))) (idxP s.a s.l (i : Int) 1 fun a12 => ldI .u8 a12 w1 fun n13 => iteB (decide ((n13 : Int) < 128))
          (K (IntKind.u64.wrap ((n : Int) + (IntKind.u64.wrap ((IntKind.u64.wrap (Int.tmod n11 128)) * 2 ^ (min (Int.toNat (IntKind.i64.wrap (7 * (i : Int)))) (IntKind.bits .u64)))))) (IntKind.i64.wrap ((i : Int) + 1)) 0 w1)
          (next ((IntKind.u64.wrap ((n : Int) + (IntKind.u64.wrap ((IntKind.u64.wrap (Int.tmod n11 128)) * 2 ^ (min (Int.toNat (IntKind.i64.wrap (7 * (i : Int)))) (IntKind.bits .u64)))))), (IntKind.i64.wrap ((i : Int) + 1)), ()) w1))) := fun hok => by
      have h9 : i = 9 → x.toNat ≤ 1 := fun h9 => by
        rcases Nat.lt_or_ge 1 x.toNat with h1 | h1
        · exact absurd (.inl ⟨h9, h1⟩) hok
        · exact h1
      refine rd fun ad had => ldI_of had ⟨by omega, ⟨by rw [wrap_i64 (by omega)]; omega, rd fun ad had => ldI_of had ?_⟩⟩
      rw [add_step x hn hi h9]
      refine iteB_intro (fun h128 => ?_) (fun h128 => ?_)
      · have hlow : x.toNat < 128 := by simp at h128; omega
        have := hK (n + x.toNat % 128 * 2 ^ (7 * i)) (i + 1) 0 (by rw [← hdec]; unfold dnum; rw [if_neg hok, if_pos hlow])
        rw [wrap_i64 (by omega)]
        exact this
      · have hhigh : ¬ x.toNat < 128 := by simp at h128; omega
        have hi8 : i < 9 := by
          rcases Nat.lt_or_ge i 9 with h1 | h1
          · exact h1
          · have := h9 (by omega); omega
        rw [wrap_i64 (x := (i : Int) + 1) (by omega)]
        refine hnext _ _ ⟨rfl, _, i + 1, rfl, by simp, by omega, by omega, ?_, ?_⟩ (by simp; omega)
        · have hp : 2 ^ (7 * (i + 1)) = 128 * 2 ^ (7 * i) := by rw [show 7 * (i + 1) = 7 + 7 * i by omega, Nat.pow_add]
          have h1 : x.toNat % 128 * 2 ^ (7 * i) ≤ 127 * 2 ^ (7 * i) := Nat.mul_le_mul_right _ (by omega)
          omega
        · rw [← hdec]
          conv => rhs; unfold dnum
          rw [if_neg hok, if_neg hhigh]
    refine iteB_intro (fun h9 => ?_) (fun h9 => ?_)
    · have e9 : i = 9 := by simp at h9; omega
      refine rd fun ad had => ldI_of had ?_
      refine iteB_intro (fun h1 => form (.inl ⟨e9, by simp at h1; omega⟩)) (fun h1 => ?_)
      have hc1 : ¬ x.toNat > 1 := by simp at h1; omega
      refine iteB_intro (fun h2 => ?_) (fun h2 => ?_)
      · refine rd fun ad had => ldI_of had ?_
        refine iteB_intro (fun h3 => form (.inr ⟨by omega, by simp at h3; omega⟩)) (fun h3 => leaf ?_)
        simp at h3
        omega
      · simp at h2; omega
    · have e9 : i ≠ 9 := by simp at h9; omega
      refine iteB_intro (fun h2 => ?_) (fun h2 => ?_)
      · refine rd fun ad had => ldI_of had ?_
        refine iteB_intro (fun h3 => form (.inr ⟨by simp at h2; omega, by simp at h3; omega⟩)) (fun h3 => leaf ?_)
        simp at h3
        omega
      · exact leaf (by simp at h2; omega)
theorem muint_ok {w : World} {b : Nat} {s : Slc} {bs : List UInt8} {at_ : Nat} {e : Int} {K : Int → World → Prop} (h : Mr w b s bs at_ e)
    (hK : ∀ w', Mr w' b s bs (rUpto bs at_ e 18446744073709551615).2.1 (rUpto bs at_ e 18446744073709551615).2.2 → Chg (Of b) w w' → K ((rUpto bs at_ e 18446744073709551615).1 : Int) w') : c_preluderef01_Reader_Uint (some ⟨b, 0, none⟩) w K := by
  refine sim_preluderef01_Reader_Uint ?_
  unfold sh_preluderef01_Reader_Uint
  have hle := h.le
  have hfew := h.few
  have hlen := h.len
  rw [nnP_some]
  refine ldI_of h.c2 ?_
  refine iteB_intro (fun he => ?_) (fun he => ?_)
  · have hne : e ≠ 0 := by simpa using he
    unfold rUpto at hK
    rw [if_pos hne] at hK
    exact hK w h (Chg.refl _ _)
  have h0 : e = 0 := by simpa using he
  subst h0
  rw [nnP_some]
  refine ldS_of h.drew.c0 ?_
  rw [nnP_some]
  refine ldI_of h.drew.c1 ?_
  refine h.drew.rd.sl (l := at_) (u := bs.length) rfl (by rw [hlen]; rfl) (by omega) (by simp) fun p hp _ => ?_
  rw [U8_part, List.take_of_length_le (by simp)] at hp
  refine number_ok hp fun n k d hd => ?_
  unfold rUpto at hK
  rw [if_neg (by simp), hd] at hK
  simp only at hK
  rw [nnP_some]
  refine h.drew.set2 fun w1 hw1 hc1 => ?_
  rw [nnP_some]
  refine ldI_of hw1.c1 ?_
  rw [nnP_some]
  rcases dnum_err _ _ _ _ _ _ hd with hd0 | ⟨hn0, hk0, hdd⟩
  · subst hd0
    have hok := dnum_ok hd
    have hk : at_ + k ≤ bs.length := by have := hok.2.2.1; simp at this; omega
    rw [if_neg (by simp), if_neg (by omega)] at hK
    refine hw1.set1 (at2 := at_ + k) (by rw [wrap_i64 (by omega)]; omega) hk fun w2 hw2 hc2 => hK w2 hw2 (chgO b (chgO b (drewO b w) hc1) hc2)
  · rw [if_pos (by omega)] at hK
    subst hn0 hk0
    refine hw1.set1 (at2 := at_) (by rw [wrap_i64 (by omega)]; omega) hle fun w2 hw2 hc2 => hK w2 hw2 (chgO b (chgO b (drewO b w) hc1) hc2)
theorem mint_ok {w : World} {b : Nat} {s : Slc} {bs : List UInt8} {at_ : Nat} {e : Int} {K : Int → World → Prop} (h : Mr w b s bs at_ e)
    (hK : ∀ w', Mr w' b s bs (rUpto bs at_ e 18446744073709551615).2.1 (rUpto bs at_ e 18446744073709551615).2.2 → Chg (Of b) w w' → K (unz (rUpto bs at_ e 18446744073709551615).1) w') : c_preluderef01_Reader_Int (some ⟨b, 0, none⟩) w K := by
  refine sim_preluderef01_Reader_Int ?_
  unfold sh_preluderef01_Reader_Int
  refine muint_ok h fun w1 hw1 hc1 => ?_
  have := hK w1 hw1 hc1
  have hu := rUpto_lt (bs := bs) (at_ := at_) (most := 18446744073709551615) (e := e)
  generalize (rUpto bs at_ e 18446744073709551615).1 = q at *
  refine sim_preluderef01_Unfold ?_
  unfold sh_preluderef01_Unfold
  have em : Int.tmod (q : Int) 2 = ((q % 2 : Nat) : Int) := by rw [Int.tmod_eq_emod_of_nonneg (by omega)]; omega
  have ed : Int.tdiv (q : Int) 2 = ((q / 2 : Nat) : Int) := by rw [Int.tdiv_eq_ediv_of_nonneg (by omega)]; omega
  rw [em, ed, wrap_u64 (by omega), wrap_i64 (x := ((q / 2 : Nat) : Int)) (by omega), wrap_i64 (by omega)]
  unfold unz at this
  refine ⟨by omega, iteB_intro (fun h0 => ⟨by omega, ?_⟩) (fun h0 => ⟨by omega, ?_⟩)⟩
  · rwa [if_pos (by simp at h0; omega)] at this
  · rwa [if_neg (by simp at h0; omega)] at this
theorem rUpto_split (bs : List UInt8) (at_ most : Nat) (e : Int) : rUpto bs at_ e most = if (rUpto bs at_ e 18446744073709551615).2.2 = 0 ∧ (rUpto bs at_ e 18446744073709551615).1 > most then (0, at_, 12) else rUpto bs at_ e 18446744073709551615 := by
  unfold rUpto
  by_cases he : e ≠ 0
  · rw [if_pos he, if_pos he, if_neg (by simp only; omega)]
  · rw [if_neg he, if_neg he]
    rcases hd : dnum 0 0 (bs.drop at_) with ⟨n, k, d⟩
    simp only
    by_cases hd0 : d ≠ 0
    · rw [if_pos hd0, if_pos hd0, if_neg (by simp only; omega)]
    · have : d = 0 := by omega
      subst this
      have hlt := (dnum_ok hd).2.2.2
      rw [if_neg hd0, if_neg hd0, if_neg (show ¬ n > 18446744073709551615 by omega)]
      simp only [true_and]
theorem mupto_ok {w : World} {b : Nat} {s : Slc} {bs : List UInt8} {at_ most : Nat} {e : Int} {K : Int → World → Prop} (h : Mr w b s bs at_ e)
    (hK : ∀ w', Mr w' b s bs (rUpto bs at_ e most).2.1 (rUpto bs at_ e most).2.2 → Chg (Of b) w w' → K ((rUpto bs at_ e most).1 : Int) w') : c_preluderef01_Reader_Upto (some ⟨b, 0, none⟩) (most : Int) w K := by
  refine sim_preluderef01_Reader_Upto ?_
  unfold sh_preluderef01_Reader_Upto
  rw [rUpto_split] at hK
  have hle := h.le
  rw [nnP_some]
  refine ldI_of h.c1 ?_
  refine muint_ok h fun w1 hw1 hc1 => ?_
  generalize rUpto bs at_ e 18446744073709551615 = q at *
  obtain ⟨v, a2, e2⟩ := q
  simp only at hK hw1 ⊢
  rw [nnP_some]
  refine ldI_of hw1.c2 ?_
  refine iteB_intro (fun h0 => ?_) (fun h0 => ?_)
  · have e0 : e2 = 0 := by simpa using h0
    refine iteB_intro (fun hm => ?_) (fun hm => ?_)
    · rw [if_pos ⟨e0, by simp at hm; omega⟩] at hK
      rw [nnP_some]
      refine hw1.set2 fun w2 hw2 hc2 => ?_
      rw [nnP_some]
      exact hw2.set1 rfl hle fun w3 hw3 hc3 => hK w3 hw3 (chgO b (chgO b hc1 hc2) hc3)
    · rw [if_neg (by simp at hm; omega)] at hK
      exact hK w1 hw1 hc1
  · have e0 : e2 ≠ 0 := by simpa using h0
    rw [if_neg (by omega)] at hK
    exact hK w1 hw1 hc1
theorem mraw_ok {w : World} {b : Nat} {s : Slc} {bs : List UInt8} {at_ : Nat} {e n : Int} {K : Slc → World → Prop} (h : Mr w b s bs at_ e) (hn : n ≤ 9223372036854775807)
    (hK : ∀ l w', Mr w' b s bs (rRaw bs at_ e n).2.1 (rRaw bs at_ e n).2.2 → Own w' 5 1 l (U8 (rRaw bs at_ e n).1) → Chg (Of b) w w' → NewS w.heap.size l → K l w') : c_preluderef01_Reader_Raw (some ⟨b, 0, none⟩) n w K := by
  refine sim_preluderef01_Reader_Raw ?_
  unfold sh_preluderef01_Reader_Raw
  have hle := h.le
  have hfew := h.few
  have hlen := h.len
  have hblt := h.blk.lt
  unfold rRaw at hK
  rw [nnP_some]
  refine ldI_of h.c2 ?_
  refine iteB_intro (fun he => ?_) (fun he => ?_)
  · have hne : e ≠ 0 := by simpa using he
    rw [if_pos hne] at hK
    exact hK _ w h (Own.nil _ _ _) (Chg.refl _ _) (fun b h => by cases h)
  have h0 : e = 0 := by simpa using he
  subst h0
  rw [if_neg (by simp)] at hK
  refine iteB_intro (fun hneg => ?_) (fun hneg => ?_)
  · have hn0 : n < 0 := by simpa using hneg
    rw [if_pos hn0] at hK
    rw [nnP_some]
    exact h.set2 fun w' hw hc => hK _ w' hw (Own.nil _ _ _) hc (fun b h => by cases h)
  have hn0 : ¬ n < 0 := by simpa using hneg
  rw [if_neg hn0] at hK
  rw [nnP_some]
  refine ldS_of h.drew.c0 ?_
  rw [nnP_some]
  refine ldI_of h.drew.c1 ?_
  have esub : IntKind.i64.wrap ((s.l : Int) - (at_ : Int)) = ((bs.length - at_ : Nat) : Int) := by rw [wrap_i64 (by omega)]; omega
  rw [esub]
  refine iteB_intro (fun hbig => ?_) (fun hbig => ?_)
  · have hb : n > ((bs.length - at_ : Nat) : Int) := by simpa using hbig
    rw [if_pos hb] at hK
    rw [nnP_some]
    exact h.drew.set2 fun w' hw hc => hK _ w' hw (Own.nil _ _ _) (chgO b (drewO b w) hc) (fun b h => by cases h)
  have hb : ¬ n > ((bs.length - at_ : Nat) : Int) := by simpa using hbig
  rw [if_neg hb] at hK
  obtain ⟨m, rfl⟩ : ∃ m : Nat, n = (m : Int) := ⟨n.toNat, by omega⟩
  rw [Int.toNat_natCast] at hK
  have dn : ∀ w : World, Chg Nil w w.drew := fun w => (Drw.refl w).drew.chg _
  refine loopP_inv (fun st w1 => ∃ i : Nat, st.2.1 = (i : Int) ∧ i ≤ m ∧ Own w1 5 1 st.1 (U8 ((bs.drop at_).take i)) ∧ NewS w.heap.size st.1 ∧ Chg Nil w w1) (fun st _ => m - st.2.1.toNat) ⟨0, rfl, Nat.zero_le _, Own.nil _ _ _, (fun b h => by cases h), dn w⟩ ?_
  rintro ⟨l, i0, u⟩ w1 next ⟨i, rfl, hi, ho1, hn1, hc1⟩ hnext
  dsimp only
  have h1 := h.nil hc1
  refine iteB_intro (fun hx => ?_) (fun hx => ?_)
  · have hlt : i < m := by simp at hx; omega
    rw [nnP_some]
    refine ldS_of h1.drew.c0 ?_
    rw [nnP_some]
    refine ldI_of h1.drew.c1 ?_
    rw [wrap_i64 (by omega)]
    have hai : at_ + i < bs.length := by omega
    refine h1.drew.rd.idx (by omega) (by simp; omega) fun ad had => ?_
    rw [show ((at_ : Int) + (i : Int)).toNat = at_ + i by omega, U8_at bs hai] at had
    refine ldI_of had ?_
    refine newP_intro fun w2 hc2 hb2 hs2 => ?_
    have hr : Rd w2 ⟨some ⟨w1.drew.heap.size, 0, none⟩, 1, 1⟩ (U8 [bs[at_ + i]]) := by
      have := hb2.rd (o := 0) (l := 1) (c := 1) (by simp) (by omega)
      simpa [U8] using this
    have c2 := (dn w1).step hc2 fun _ _ h => h
    refine apP_rd TU8 (x := ⟨some ⟨w1.drew.heap.size, 0, none⟩, 1, 1⟩) (ho1.chg c2 fun _ _ h => h) hr (fun h => by cases h) (U8_one _) (by simp; omega) (by simp; omega) fun s' w3 ho3 hl3 hg3 _ => ?_
    have cc2 : Chg Nil w w2 := hc1.step c2 fun _ _ h => h
    rw [← U8_append] at ho3
    have e3 : (bs.drop at_).take i ++ [bs[at_ + i]] = (bs.drop at_).take (i + 1) := by
      rw [List.take_succ_eq_append_getElem (by simp; omega)]
      simp
    rw [e3] at ho3
    rw [wrap_i64 (by omega)]
    exact hnext _ _ ⟨i + 1, by simp, hlt, ho3, hn1.gr hg3 cc2.size, hg3.nil cc2 hn1⟩ (by simp; omega)
  · have hge : i = m := by simp at hx; omega
    subst hge
    rw [nnP_some]
    refine ldI_of h1.c1 ?_
    rw [nnP_some]
    refine h1.set1 (at2 := at_ + i) (by rw [wrap_i64 (by omega)]; omega) (by omega) fun w2 hw2 hc2 => ?_
    exact hK l w2 hw2 (ho1.chg hc2 fun k hk he => by have := hn1 k hk; have : k = b := he; omega) ((hc1.mono fun _ _ h => h.elim).step hc2 fun _ _ h => h) hn1
theorem mend_ok {w : World} {b : Nat} {s : Slc} {bs : List UInt8} {at_ : Nat} {e : Int} {K : Int → World → Prop} (h : Mr w b s bs at_ e) (hK : ∀ w', Drw w w' → K (rEnd bs at_ e) w') : c_preluderef01_Reader_End (some ⟨b, 0, none⟩) w K := by
  refine sim_preluderef01_Reader_End ?_
  unfold sh_preluderef01_Reader_End
  have hlen := h.len
  have := hK w.drew (Drw.refl w).drew
  unfold rEnd at this
  rw [nnP_some]
  refine ldI_of h.drew.c2 ?_
  refine iteB_intro (fun h0 => ?_) (fun h0 => ?_)
  · have e0 : e = 0 := by simpa using h0
    rw [if_pos e0] at this
    rw [nnP_some]
    refine ldI_of h.drew.c1 ?_
    rw [nnP_some]
    refine ldS_of h.drew.c0 ?_
    refine iteB_intro (fun h1 => ?_) (fun h1 => ?_)
    · rwa [if_pos (by simp at h1; omega)] at this
    · rw [if_neg (by simp at h1; omega)] at this
      rw [nnP_some]
      exact ldI_of h.drew.c2 (by rw [e0]; exact this)
  · have e0 : e ≠ 0 := by simpa using h0
    rw [if_neg e0] at this
    rw [nnP_some]
    exact ldI_of h.drew.c2 this
def rFail (e x : Int) : Int := if e = 0 then x else e
end Go.Proofs.YtlnhecbgjjglfaaDoor
