/- LCodes: the law LangCodes. -/
import Derived.Test.YtgpdecfcjpblgaaDoorApL
import Derived.Test.YtgpdecfcjpblgaaDoorEncR
import Derived.Test.YtgpdecfcjpblgaaDoorDecRf
import Derived.Test.YtgpdecfcjpblgaaDoorTab
set_option linter.unusedVariables false
set_option linter.unusedSimpArgs false
namespace Go.Proofs.YtgpdecfcjpblgaaDoor
open Go Go.Sh Go.Pl Go.RowKit Go.Lang Go.Names Go.Num Go.Gt Go.Crc
theorem unT_few (bs : List UInt8) : (unT bs).1.length ≤ 64 := by
  unfold unT unE
  split
  · exact Nat.zero_le _
  · split
    · exact Nat.zero_le _
    · rename_i h
      exact (checkT_ok (Decidable.not_not.1 h)).1
set_option maxRecDepth 20000 in
set_option maxHeartbeats 4000000 in
theorem law_LangCodes {s x : Slc} {ms : Mo libG} {bs : List UInt8} {w : World} (ht : Tab w) (k0 : Gt.Rep reachBytes w libG [.slice s.a s.l s.c] ms) (r1 : Rd w x (U8 bs)) (n1 : x.a = none → x.l = 0 ∧ x.c = 0) (z1 : x.c ≤ reachBytes) : c_preludelaw03_LangCodes s x w fun r w' => r = true ∧ Chg Nil w w' := by
  refine sim_preludelaw03_LangCodes ?_
  unfold sh_preludelaw03_LangCodes
  obtain ⟨hs, hall, _, hcap⟩ := rep_lib (Nat.le_refl _) k0
  have hre : reachBytes = 140737488351232 := rfl
  have ls := hs.len
  have cs := hs.cap
  have lx : x.l = bs.length := by have := r1.len; simpa using this
  have cx := r1.cap
  generalize libOf ms = ps at *
  have h64 : ∀ y ∈ ps, I64 y.p.l := fun y hy => (hall y hy).1.2.2.2.2
  have hxl : bs ≠ [] → ∀ k, blkOf x = some k → k < w.heap.size := fun hne => r1.lt (fun h => hne (by cases bs with | nil => rfl | cons a r => cases h))
  refine wide_ok hs (by omega) ⟨rfl, Chg.refl _ _⟩ (fun hb => ?_)
  refine iteB_neg rfl ?_
  refine library_ok hs (by omega) fun k cur w1 hl1 hb1 hbe hc1 => ?_
  refine encode_ok hl1 h64 fun x2 w2 ho2 hc2 hg2 => ?_
  have c02 := hc1.tr hc2
  refine encode_ok (hl1.ch0 hc2) h64 fun y3 w3 ho3 hc3 hg3 => ?_
  have c03 := c02.tr hc3
  have c13 := hc2.tr hc3
  refine digest_ok (ht.chg (show Chg Nil w w3 from c03) fun h => h) (hl1.ch0 c13) h64 fun w4 hc4 => ?_
  have c04 := c03.tr hc4
  refine refEncode_ok (hs.ch0 c04) h64 fun z5 w5 ho5 hc5 hg5 => ?_
  have c05 := c04.tr hc5
  refine refDigest_ok (hs.ch0 c05) h64 fun w6 hc6 => ?_
  have c06 := c05.tr hc6
  have c16 := ((c13.tr hc4).tr hc5).tr hc6
  have few := encT_few h64
  have l2 := ho2.lt
  have l3 := ho3.lt
  have q2 := ho2.ch0 (((hc3.tr hc4).tr hc5).tr hc6)
  have q3 := ho3.ch0 ((hc4.tr hc5).tr hc6)
  have q5 := ho5.ch0 hc6
  refine iteB_neg (by simp) ?_
  refine sameBytes_ok q2.rd q5.rd (by omega) fun w7 hc7 => ?_
  rw [decide_eq_true rfl]
  refine iteB_neg rfl ?_
  refine sameBytes_ok (q3.ch0 hc7).rd (q5.ch0 hc7).rd (by omega) fun w8 hc8 => ?_
  rw [decide_eq_true rfl]
  have c68 := hc7.tr hc8
  refine iteB_neg rfl (iteB_neg (by simp) (iteB_neg (by simp) ?_))
  refine sameLib_ok (hl1.ch0 (c16.tr c68)) (hs.ch0 (c06.tr c68)) (by omega) fun w9 hc9 => iteB_neg rfl ?_
  have c69 := c68.tr hc9
  refine idxP_intro (by omega) (by dsimp only; omega) rfl ?_
  rw [ls, Int.toNat_natCast]
  refine ldStr_b (hb1.ch0 (c16.tr c69)) hbe ?_
  refine iteB_neg (by rw [seq_eq, show seq behind (ByteArray.mk #[98, 101, 104, 105, 110, 100]) = true from seq_refl _]; rfl) ?_
  have c09 := c06.tr c69
  have p2 := q2.ch0 c69
  have lx2 := p2.rd.len
  rw [U8_length] at lx2
  have z1' := c02.size
  have z12 := hc1.size
  have z23 := hc3.size
  have z34 := hc4.size
  have gg : ∀ k, blkOf x2 = some k → w.heap.size ≤ k := fun k hk => by have := hg2 k hk; omega
  refine loopP_inv (fun st w' => ∃ (i : Nat) (vs : List Value), st.1 = (i : Int) ∧ i ≤ x2.l ∧ Own w' 5 1 x2 vs ∧ Ch [blkOf x2] w9 w') (fun st _ => x2.l - st.1.toNat) ⟨0, _, rfl, Nat.zero_le _, p2, Ch.refl _ _⟩ ?_
  rintro ⟨i0, u⟩ w10 next ⟨i, vs, rfl, hi, ho10, hc10⟩ hnext
  dsimp only
  refine iteB_dec (fun h => ?_) fun h => ?_
  · rw [wrap_i64 (by omega)]
    exact ho10.st1' (x := i) (by omega) rfl fun w11 o hc11 hz => hnext _ _ ⟨i + 1, _, by simp, by omega, o, hc10.tr hc11⟩ (by simp; omega)
  clear hnext
  refine apB TU8 (cells := #[.int .u8 201]) rfl (by simp; rfl) ho10 (by omega) (by omega) fun s11 w11 ho11 hl11 hg11 => ?_
  have c911 := hc10.tr hg11.ch.1
  have n3 : ∀ k, blkOf y3 = some k → ¬ inL [blkOf x2] k := fun k hk hin => by
    have := hg3 k hk
    have := l2 k (Eq.symm (show some k = blkOf x2 from hin))
    omega
  have n5 : ∀ k, blkOf z5 = some k → ¬ inL [blkOf x2] k := fun k hk hin => by
    have := hg5 k hk
    have := l2 k (Eq.symm (show some k = blkOf x2 from hin))
    omega
  refine sameBytes_ok ((q3.ch0 c69).ch c911 n3).rd ((q5.ch0 c69).ch c911 n5).rd (by omega) fun w12 hc12 => ?_
  rw [decide_eq_true rfl]
  refine iteB_neg rfl ?_
  have c012 : Ch [] w w12 := (c09.trO c911 gg).tr hc12
  -- the bytes
  refine newB fun k13 w13 hc13 hb13 hk13 hs13 => ?_
  have rx := (r1.ch0 c012).ch0 hc13
  have o13 : Own w13 5 1 ⟨some ⟨k13, 0, none⟩, 0, 0⟩ (U8 []) := ⟨by simp, .inr ⟨k13, 0, #[], rfl, Nat.zero_le _, hb13, Nat.le_refl _, by unfold maxLen; omega, by simp, by simp⟩⟩
  refine apO TU8 (s := ⟨some ⟨k13, 0, none⟩, 0, 0⟩) o13 rx n1 (U8_one _) (by show (0 + x.l) * 1 ≤ _; omega) (by show 0 + x.l ≤ _; omega) fun s14 w14 ho14 hl14 hg14 => ?_
  obtain ⟨g1, g2⟩ := hg14.ch
  rw [U8_nil, List.nil_append] at ho14
  have c013 := c012.tr hc13
  have z12' := c012.size
  have c014 : Ch [] w w14 := c013.trO g1 fun k hk => by have hk : some k13 = some k := hk; cases hk; omega
  have gs14 : Ge w.heap.size (blkOf s14) := fun k hk => by
    rcases g2 k hk with h | h
    · have h : some k13 = some k := h
      cases h; omega
    · omega
  have l14 : s14.l = bs.length := by have := ho14.rd.len; simpa using this
  refine apB TU8 (cells := #[.int .u8 99]) rfl (by simp; rfl) ho14 (by omega) (by omega) fun s15 w15 ho15 hl15 hg15 => ?_
  obtain ⟨g3, g4⟩ := hg15.ch
  have c015 : Ch [] w w15 := c014.trO g3 gs14
  replace ho15 : Own w15 5 1 s15 (U8 (bs ++ [99])) := by rw [U8_append]; exact ho15
  have l15 : s15.l = bs.length + 1 := by omega
  have hsa : ∃ ad, s15.a = some ad := by
    cases h : s15.a with
    | none => have := (ho15.none0 h).1; omega
    | some ad => exact ⟨ad, rfl⟩
  obtain ⟨ad, ha⟩ := hsa
  have cap15 := ho15.rd.cap
  have front : ∀ {w' : World}, Ch [] w15 w' → Rd w' ⟨s15.a, bs.length, s15.c⟩ (U8 bs) := fun hc => by
    have hr := (ho15.ch0 hc).rd
    refine ⟨by simp, by show bs.length ≤ s15.c; omega, fun j hj => ?_⟩
    rw [U8_length] at hj
    obtain ⟨ad', h1, h2⟩ := hr.at_ j (by rw [U8_length, List.length_append]; simp; omega)
    refine ⟨ad', h1, ?_⟩
    rw [h2, U8_append, List.getElem?_append_left (by rw [U8_length]; exact hj)]
  have hsl : ∀ {K : Option Addr → Nat → Nat → Prop}, K s15.a bs.length s15.c → slP s15.a s15.l s15.c none (some (x.l : Int)) 1 K := fun hK => by
    rw [ha] at hK ⊢
    exact slP_front (by rw [lx]) (by omega) hK
  refine hsl ?_
  have cr := Ch.refl [] w15
  refine decode_ok (front cr) (by omega) fun p cp w16 hp hc16 => ?_
  refine hsl ?_
  refine decode_ok (front hc16) (by omega) fun q cq w17 hq hc17 => ?_
  have c1517 := hc16.tr hc17
  have c017 := c015.tr c1517
  refine refDecode_ok (r1.ch0 c017) n1 (fun hne k hk => by have := hxl hne k hk; have := c017.size; omega) (by omega) fun l cl w18 hl hc18 => ?_
  have c1518 := c1517.tr hc18
  have f64 := unT_few bs
  refine iteB_neg (by simp) (iteB_neg (by simp) ?_)
  have hplt := hp.lt
  have hqlt := hq.lt
  have hp' := (hp.ch0 hc17).ch0 hc18
  have hq' := hq.ch0 hc18
  refine sameLib_ok hp'.rdL hl.rdL (by omega) fun w19 hc19 => iteB_neg rfl ?_
  refine sameLib_ok (hq'.ch0 hc19).rdL (hl.ch0 hc19).rdL (by omega) fun w20 hc20 => iteB_neg rfl ?_
  have c1820 := hc19.tr hc20
  refine hsl ?_
  refine sameBytes_ok (front (c1518.tr c1820)) (r1.ch0 ((c017.tr hc18).tr c1820)) (by omega) fun w21 hc21 => ?_
  rw [decide_eq_true rfl]
  refine iteB_neg rfl ?_
  have c1821 := c1820.tr hc21
  have c021 := (c017.tr hc18).tr c1821
  have hr15 := (ho15.ch0 (c1518.tr c1821)).rd
  have h99 : (U8 (bs ++ [99]))[bs.length]? = some (.int .u8 99) := by
    rw [U8_append, List.getElem?_append_right (by rw [U8_length]; exact Nat.le_refl _), U8_length, Nat.sub_self]; rfl
  obtain ⟨ad', h1, h2⟩ := hr15.at_ bs.length (by rw [U8_length, List.length_append]; simp)
  refine idxP_intro (by omega) (by omega) h1 ?_
  rw [lx, Int.toNat_natCast, Nat.mul_one]
  rw [h99] at h2
  refine ldI_of h2 ?_
  refine iteB_neg rfl ?_
  have z17 := hc17.size
  refine apartL_ok (hp'.ch0 c1821) (hq'.ch0 c1821) (hl.ch0 c1821) (fun cs hcs k hk => ?_) f64 (by omega) fun w22 hc22 => ⟨rfl, ?_⟩
  · have := hplt.2 cs hcs k hk; omega
  · have z15 := c015.size
    exact Chg.step (show Chg Nil w _ from c021) hc22 fun i hi h => by omega
end Go.Proofs.YtgpdecfcjpblgaaDoor
