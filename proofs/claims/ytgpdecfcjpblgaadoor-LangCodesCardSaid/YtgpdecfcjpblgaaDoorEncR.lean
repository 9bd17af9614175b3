/- EncR: the document's Encode; both Digests. -/
import Derived.Test.YtgpdecfcjpblgaaDoorEnc
import Derived.Test.YtgpdecfcjpblgaaDoorSum
import Derived.Lib.AppendStr
set_option linter.unusedVariables false
set_option linter.unusedSimpArgs false
namespace Go.Pl
open Go Go.Sh Go.RowKit Go.Lib
/-- A string's bytes appended. -/
theorem apStr {P : Program} {t u e ty : TypeId} (T : ElT P t e (.int .u8 0) 1 1) (hu : P.underlying u = some .string) {n : Nat} {w : World} {s : Slc} {bs : List UInt8} {str : ByteArray} {K : Slc → World → Prop}
    (hs : Own w e 1 s (U8 bs)) (hg : Ge n (blkOf s)) (hn : n ≤ w.heap.size) (hl : s.l + str.size ≤ 140737488355328)
    (hK : ∀ s' w', Own w' e 1 s' (U8 (bs ++ str.data.toList)) → s'.l = s.l + str.size → Ch [blkOf s] w w' → Ge n (blkOf s') → K s' w') : apP P #[t, u] ty [.slice s.a s.l s.c, .string str] w K := by
  obtain ⟨i, hi, hz, hsz, hby⟩ := info_parts T.info
  have hown : w.ownsRow n e 1 (.slice s.a s.l s.c) s.l (U8 bs) := by
    refine ⟨hs.1, ?_⟩
    rcases hs.2 with h | ⟨g, cap, cur, h1, h2, h3⟩
    · exact .inl h
    · refine .inr ⟨g, cap, cur, h1, ?_, h3⟩
      injection h1 with e1 _ _
      exact hg g (by simp [blkOf, e1])
  obtain ⟨v', w', hrun, ho, hgr, hnil⟩ := run_append_own_string (P := P) w n t u ty e i T.und hu hi hz hsz hby _ s.l _ hown str (by unfold maxLen; omega) hl hn
  obtain ⟨s', rfl, hl'⟩ := own_slice ho
  have hge : Ge n (blkOf s') := by
    rcases ho.2 with ⟨h, _⟩ | ⟨g, cap, cur, h1, h2, _⟩
    · injection h with e1 _ _
      intro k hk
      simp [blkOf, e1] at hk
    · injection h1 with e1 _ _
      intro k hk
      simp [blkOf, e1] at hk
      omega
  have he : U8 bs ++ strCells str = U8 (bs ++ str.data.toList) := by simp [U8, strCells]
  rw [he, ← hl'] at ho
  have ho0 : Own w' e 1 s' (U8 (bs ++ str.data.toList)) := by
    refine ⟨ho.1, ?_⟩
    rcases ho.2 with h | ⟨g, cap, cur, h1, h2, h3⟩
    · exact .inl h
    · exact .inr ⟨g, cap, cur, h1, Nat.zero_le _, h3⟩
  exact ⟨s', w', by simpa using hrun, hK s' w' ho0 hl' (Ch.ofO ((Chg.grown hgr).mono fun k _ hk => by rw [blkOf_own] at hk; exact hk)) hge⟩
end Go.Pl
namespace Go.Proofs.YtgpdecfcjpblgaaDoor
open Go Go.Sh Go.Pl Go.RowKit Go.Lang Go.Names Go.Num Go.Gt Go.Crc
set_option maxRecDepth 20000 in
set_option maxHeartbeats 2000000 in
theorem refEncode_ok {s : Slc} {ps : List Pc} {w : World} {K : Slc → Int → World → Prop} (hs : RdL w s ps) (h64 : ∀ x ∈ ps, I64 x.p.l)
    (hK : ∀ s' w', Own w' 5 1 s' (U8 (encT ps).1) → Ch [] w w' → Ge w.heap.size (blkOf s') → K s' (encT ps).2 w') : c_preluderef03_Encode s w K := by
  refine sim_preluderef03_Encode ?_
  unfold sh_preluderef03_Encode
  have ls := hs.len
  refine refCheck_ok hs fun w1 hc1 => ?_
  unfold encT at hK
  refine iteB_ne (fun hne => ?_) (fun h0 => ?_)
  · rw [if_pos hne] at hK
    exact hK _ w1 (Own.nil _ _ _) hc1 (fun k h => by cases h)
  rw [if_neg (by simp [h0])] at hK
  obtain ⟨hn64, hall⟩ := checkT_ok h0
  have hsz : ∀ x ∈ ps, I64 x.p.l ∧ x.name.size ≤ 31 := fun x hx => ⟨h64 x hx, (nameOk_size (hall x hx).1).2⟩
  have z1 := hc1.size
  refine newB fun k4 w2 hc2 hb2 hk2 hs2 => ?_
  have ho2 : Own w2 5 1 ⟨some ⟨k4, 0, none⟩, 4, 4⟩ (U8 headB) := Own.new hb2 (by simp [maxLen])
  have ewl : IntKind.u64.wrap (s.l : Int) = ((ps.length : Nat) : Int) := by rw [ls, wrap_u64 (by omega)]
  rw [ewl]
  have e10 := encU_ten ps.length (by omega)
  refine refUint_ok (by omega) fun s3 w3 ho3 (hc3 : Ch [] w2 w3) hn3 => ?_
  have l3 : s3.l = (encU ps.length).length := by have := ho3.rd.len; simpa using this
  refine apO TU8 (s := ⟨some ⟨k4, 0, none⟩, 4, 4⟩) (ho2.ch0 hc3) ho3.rd (fun h => ho3.none0 h) (U8_one _) (by show (4 + s3.l) * 1 ≤ _; omega) (by show 4 + s3.l ≤ _; omega) fun s4 w4 ho4 hl4 hg4 => ?_
  obtain ⟨g1, g2⟩ := hg4.ch
  rw [← U8_append] at ho4
  have c02 := hc1.tr hc2
  have c03 := c02.tr hc3
  have c04 := c03.trO g1 (fun k hk => by have hk : some k4 = some k := hk; cases hk; omega)
  have z3 := c03.size
  have gs4 : Ge w.heap.size (blkOf s4) := fun k hk => by
    rcases g2 k hk with h | h
    · have h : some k4 = some k := h
      cases h; omega
    · omega
  refine loopP_inv (fun st w6 => ∃ (i : Nat), st.2.1 = (i : Int) ∧ i ≤ ps.length ∧ Own w6 5 1 st.1 (U8 (headB ++ encU ps.length ++ (ps.take i).flatMap pcB)) ∧ Ch [] w w6 ∧ Ge w.heap.size (blkOf st.1)) (fun st _ => ps.length - st.2.1.toNat)
    ⟨0, rfl, Nat.zero_le _, by simpa using ho4, c04, gs4⟩ ?_
  clear ho4 g1 g2 hg4 ho2 hb2 ho3 hn3
  rintro ⟨sb, i0, u⟩ w6 next ⟨i, rfl, hi, ho6, hc6, hg6⟩ hnext
  dsimp only at ho6 hg6 ⊢
  have lb := ho6.rd.len
  simp only [U8_length, List.length_append, show headB.length = 4 from rfl] at lb
  have hbl := pcs_len (ps := ps.take i) fun x hx => hsz x (List.mem_of_mem_take hx)
  rw [List.length_take] at hbl
  refine iteB_dec (fun h => ?_) (fun h => ?_)
  · have hlt : i < ps.length := by omega
    have hx := hsz ps[i] (List.getElem_mem _)
    obtain ⟨ad, cs, hp0, hidx⟩ := hs.at' hlt
    have hp := hp0.ch0 hc6
    have z6 := hc6.size
    refine hidx _ _ rfl ?_
    refine ldStr_of hp.c0 ?_
    rw [show IntKind.u64.wrap (ps[i].name.size : Int) = ((ps[i].name.size : Nat) : Int) by rw [wrap_u64 (by omega)]]
    have e10' := encU_ten ps[i].name.size (by omega)
    refine refUint_ok (by omega) fun s7 w7 ho7 (hc7 : Ch [] w6 w7) hn7 => ?_
    have l7 : s7.l = (encU ps[i].name.size).length := by have := ho7.rd.len; simpa using this
    refine apO TU8 (ho6.ch0 hc7) ho7.rd (fun h => ho7.none0 h) (U8_one _) (by omega) (by omega) fun s8 w8 ho8 hl8 hg8 => ?_
    obtain ⟨g1, g2⟩ := hg8.ch
    rw [← U8_append] at ho8
    have hc7' := hc6.tr hc7
    have hc8 := hc7'.trO g1 hg6
    have hge8 : Ge w.heap.size (blkOf s8) := fun k hk => by
      rcases g2 k hk with h | h
      · exact hg6 k h
      · have := hc7'.size; omega
    refine hidx _ _ rfl ?_
    refine ldStr_of (hp0.ch0 hc8).c0 ?_
    refine apStr TU8 strT ho8 hge8 hc8.size (by omega) fun s9 w9 ho9 hl9 hc9 hge9 => ?_
    have hc9' := hc8.trO hc9 hge8
    refine hidx _ _ rfl ?_
    refine ldPc (hp0.ch0 hc9') ?_
    refine written_ok (hp0.ch0 hc9').rd hx.1 fun s10 w10 ho10 hc10 hg10 => ?_
    have hpl := putT_len (a := ps[i].p.a) (b := ps[i].p.b) (c := ps[i].p.c) (d := ps[i].p.d) hx.1
    have l10 : s10.l = (putT ps[i].p.a ps[i].p.b ps[i].p.c ps[i].p.d ps[i].p.l).1.length := by have := ho10.rd.len; simpa using this
    refine apO TU8 (ho9.ch0 hc10) ho10.rd (fun h => ho10.none0 h) (U8_one _) (by omega) (by omega) fun s11 w11 ho11 hl11 hg11 => ?_
    obtain ⟨g3, g4⟩ := hg11.ch
    rw [← U8_append] at ho11
    have hc10' := hc9'.tr hc10
    rw [wrap_i64 (by omega)]
    refine hnext _ _ ⟨i + 1, by simp, hlt, ?_, hc10'.trO g3 hge9, fun k hk => ?_⟩ (by simp; omega)
    · rw [List.take_succ_eq_append_getElem hlt, List.flatMap_append]
      simp only [List.flatMap_cons, List.flatMap_nil, List.append_nil]
      have epc : pcB ps[i] = encU ps[i].name.size ++ ps[i].name.data.toList ++ (putT ps[i].p.a ps[i].p.b ps[i].p.c ps[i].p.d ps[i].p.l).1 := rfl
      rw [epc]
      simp only [List.append_assoc] at ho11 ⊢
      exact ho11
    · rcases g4 k hk with h | h
      · exact hge9 k h
      · have := hc10'.size; omega
  · have hie : i = ps.length := by omega
    subst hie
    rw [List.take_length] at ho6
    exact hK sb w6 ho6 hc6 hg6
theorem encT_few {ps : List Pc} (h64 : ∀ x ∈ ps, I64 x.p.l) : (encT ps).1.length ≤ 1000000 := by
  unfold encT
  split
  · exact Nat.zero_le _
  · rename_i h0
    have h0 : (checkT ps).2 = 0 := Decidable.not_not.1 h0
    obtain ⟨hn64, hall⟩ := checkT_ok h0
    have := pcs_len (ps := ps) fun x hx => ⟨h64 x hx, (nameOk_size (hall x hx).1).2⟩
    have := encU_ten ps.length (by omega)
    simp only [List.length_append, show headB.length = 4 from rfl]
    omega
def digT (ps : List Pc) : Int := if (encT ps).2 = 0 then ((crc (encT ps).1).toNat : Int) else 0
theorem digest_ok {s : Slc} {ps : List Pc} {w : World} {K : Int → Int → World → Prop} (ht : Tab w) (hs : RdL w s ps) (h64 : ∀ x ∈ ps, I64 x.p.l) (hK : ∀ w', Ch [] w w' → K (digT ps) (encT ps).2 w') : c_lang_Digest s w K := by
  refine sim_lang_Digest ?_
  unfold sh_lang_Digest
  have few := encT_few h64
  refine encode_ok hs h64 fun s1 w1 ho1 hc1 hg1 => ?_
  unfold digT at hK
  refine iteB_ne (fun hne => ?_) (fun h0 => ?_)
  · rw [if_neg hne] at hK
    exact hK w1 hc1
  · rw [if_pos h0, h0] at hK
    exact sum_ok (ht.chg (show Chg Nil w w1 from hc1) fun h => h) ho1.rd (by omega) (hK w1 hc1)
theorem refDigest_ok {s : Slc} {ps : List Pc} {w : World} {K : Int → Int → World → Prop} (hs : RdL w s ps) (h64 : ∀ x ∈ ps, I64 x.p.l) (hK : ∀ w', Ch [] w w' → K (digT ps) (encT ps).2 w') : c_preluderef03_Digest s w K := by
  refine sim_preluderef03_Digest ?_
  unfold sh_preluderef03_Digest
  have few := encT_few h64
  refine refEncode_ok hs h64 fun s1 w1 ho1 hc1 hg1 => ?_
  unfold digT at hK
  refine iteB_ne (fun hne => ?_) (fun h0 => ?_)
  · rw [if_neg hne] at hK
    exact hK w1 hc1
  · rw [if_pos h0, h0] at hK
    exact refSum_ok ho1.rd (by omega) (hK w1 hc1)
end Go.Proofs.YtgpdecfcjpblgaaDoor
