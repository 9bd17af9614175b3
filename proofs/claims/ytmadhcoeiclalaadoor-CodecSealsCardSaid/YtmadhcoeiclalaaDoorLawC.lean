/- LawC: records read back; a flipped byte is told: the law CodecFlips. -/
import Derived.Test.YtmadhcoeiclalaaDoorLawB
import Derived.Test.YtmadhcoeiclalaaDoorRow
set_option linter.unusedVariables false
set_option linter.unusedSimpArgs false
namespace Go.Rec
open Go.Crc
theorem openedAt_head {a f r : List UInt8} {at_ : Int} (ha : a.length = 5) (hf : f.length = 4) (h : crcN a ≠ num4 f) : openedAt (a ++ (f ++ r)) at_ = bad 13 := by
  have h1 : (a ++ (f ++ r)).take 5 = a := by rw [← ha, List.take_left]
  have h2 : (a ++ (f ++ r)).drop 5 = f ++ r := by rw [← ha, List.drop_left]
  have h3 : (f ++ r).take 4 = f := by rw [← hf, List.take_left]
  unfold openedAt
  rw [if_neg (by simp; omega), h1, h2, h3, if_pos h]
theorem openedAt_parts {a f l g : List UInt8} {at_ : Int} (ha : a.length = 5) (hf : f.length = 4) (hg : 4 ≤ g.length) (hn : num4 (a.drop 1) = l.length) (hl : l.length ≤ 16777216) (h : crcN a = num4 f) :
    openedAt (a ++ (f ++ (l ++ g))) at_ = if crcN l ≠ num4 g then bad 13 else ⟨a.getD 0 0, l, at_ + l.length + 13, 0⟩ := by
  have h1 : (a ++ (f ++ (l ++ g))).take 5 = a := by rw [← ha, List.take_left]
  have h2 : (a ++ (f ++ (l ++ g))).drop 5 = f ++ (l ++ g) := by rw [← ha, List.drop_left]
  have h3 : (f ++ (l ++ g)).take 4 = f := by rw [← hf, List.take_left]
  have h4 : ((a ++ (f ++ (l ++ g))).drop 1).take 4 = a.drop 1 := by
    rw [List.drop_append_of_le_length (by omega), List.take_append_of_le_length (by simp; omega), List.take_of_length_le (by simp; omega)]
  have h5 : (a ++ (f ++ (l ++ g))).drop 9 = l ++ g := by
    rw [show (9 : Nat) = 5 + 4 from rfl, ← List.drop_drop, h2, ← hf, List.drop_left]
  have h6 : (l ++ g).take l.length = l := List.take_left
  have h7 : (a ++ (f ++ (l ++ g))).drop (9 + l.length) = g := by rw [← List.drop_drop, h5, List.drop_left]
  have h8 : (a ++ (f ++ (l ++ g))).getD 0 0 = a.getD 0 0 := by
    match a, ha with
    | _ :: _, _ => rfl
  unfold openedAt
  rw [if_neg (by simp; omega), h1, h2, h3, h4, hn, if_neg (by simp [h]), if_neg (by omega), if_neg (by simp; omega), h5, h6, h7, h8]
theorem head_length (k : UInt8) (n : Nat) : (head k n).length = 5 := rfl
theorem head_num (k : UInt8) (n : Nat) (h : n < 4294967296) : num4 ((head k n).drop 1) = n := by
  have := num4_four n h []
  simpa [head] using this
theorem opened_sealed {k : UInt8} {l : List UInt8} (pre post : List UInt8) (hl : l.length ≤ 16777216) : opened (pre ++ (sealed k l ++ post)) (pre.length : Int) = ⟨k, l, (pre.length : Int) + l.length + 13, 0⟩ := by
  unfold opened
  rw [if_neg (by simp; omega), Int.toNat_natCast, List.drop_left]
  have e : sealed k l ++ post = head k l.length ++ (four (crcN (head k l.length)) ++ (l ++ (four (crcN l) ++ post))) := by simp [sealed]
  rw [e, openedAt_parts rfl rfl (by simp) (head_num k _ (by omega)) hl (by have := num4_four _ (crcN_lt (head k l.length)) []; rw [List.append_nil] at this; rw [this]), num4_four _ (crcN_lt l), if_neg (by simp)]
  rfl
theorem num4_set {f : List UInt8} (hf : f.length = 4) {j : Nat} (hj : j < 4) {v : UInt8} (hv : v ≠ f.getD j 0) : num4 (f.set j v) ≠ num4 f := by
  intro h
  have h1 := four_num4 f hf
  have h2 := four_num4 (f.set j v) (by simpa using hf)
  rw [h, h1] at h2
  have h3 := congrArg (fun l => l.getD j 0) h2
  simp only [List.getD, List.getElem?_set, if_true, if_pos (show j < f.length by omega), Option.getD_some] at h3
  exact hv h3.symm
theorem crcN_set {bs : List UInt8} {j : Nat} {v : UInt8} (hj : j < bs.length) (hv : v ≠ bs.getD j 0) : crcN (bs.set j v) ≠ crcN bs := fun h => crc_set hj hv (BitVec.eq_of_toNat_eq h.symm)
/-- A byte of a record is another: it is refused. -/
theorem flipped {k : UInt8} {l : List UInt8} (hl : l.length ≤ 16777216) {p : Nat} (hp : p < (sealed k l).length) {v : UInt8} (hv : v ≠ (sealed k l).getD p 0) : (opened ((sealed k l).set p v) 0).err = 13 := by
  unfold opened
  rw [if_neg (by simp), Int.toNat_zero, List.drop_zero]
  rw [sealed_length] at hp
  have hf4 : num4 (four (crcN (head k l.length))) = crcN (head k l.length) := by have := num4_four _ (crcN_lt (head k l.length)) []; rwa [List.append_nil] at this
  have hg4 : num4 (four (crcN l)) = crcN l := by have := num4_four _ (crcN_lt l) []; rwa [List.append_nil] at this
  have hn := head_num k l.length (by omega)
  generalize he : head k l.length = a at *
  have ha : a.length = 5 := by rw [← he]; rfl
  generalize hfe : four (crcN a) = f at *
  have hf : f.length = 4 := by rw [← hfe]; rfl
  generalize hge : four (crcN l) = g at *
  have hg : g.length = 4 := by rw [← hge]; rfl
  have hs : sealed k l = a ++ (f ++ (l ++ g)) := by unfold sealed; rw [he, hfe, hge]
  rw [hs] at hv ⊢
  by_cases h1 : p < 5
  · rw [List.set_append_left _ _ (by omega)]
    have hv' : v ≠ a.getD p 0 := by
      simpa [List.getD, List.getElem?_append_left (show p < a.length by omega)] using hv
    rw [openedAt_head (by simpa using ha) hf (by rw [hf4]; exact crcN_set (by omega) hv')]
    rfl
  rw [List.set_append_right _ _ (by omega), ha]
  have hv1 : v ≠ (f ++ (l ++ g)).getD (p - 5) 0 := by
    simpa [List.getD, List.getElem?_append_right (show a.length ≤ p by omega), ha] using hv
  by_cases h2 : p < 9
  · rw [List.set_append_left _ _ (by omega)]
    have hv' : v ≠ f.getD (p - 5) 0 := by
      simpa [List.getD, List.getElem?_append_left (show p - 5 < f.length by omega)] using hv1
    rw [openedAt_head ha (by simpa using hf) (by rw [← hf4]; exact fun h => num4_set hf (by omega) hv' h.symm)]
    rfl
  rw [List.set_append_right _ _ (by omega), hf]
  have hv2 : v ≠ (l ++ g).getD (p - 5 - 4) 0 := by
    simpa [List.getD, List.getElem?_append_right (show f.length ≤ p - 5 by omega), hf] using hv1
  by_cases h3 : p - 5 - 4 < l.length
  · rw [List.set_append_left _ _ h3]
    have hv' : v ≠ l.getD (p - 5 - 4) 0 := by
      simpa [List.getD, List.getElem?_append_left h3] using hv2
    rw [openedAt_parts ha hf (by omega) (by simpa using hn) (by simpa using hl) hf4.symm, if_pos (by rw [hg4]; exact crcN_set h3 hv')]
    rfl
  · rw [List.set_append_right _ _ (by omega)]
    have hv' : v ≠ g.getD (p - 5 - 4 - l.length) 0 := by
      simpa [List.getD, List.getElem?_append_right (show l.length ≤ p - 5 - 4 by omega)] using hv2
    rw [openedAt_parts ha hf (by simp; omega) hn hl hf4.symm, if_pos (by rw [← hg4]; exact fun h => num4_set hg (by omega) hv' h.symm)]
    rfl
end Go.Rec
namespace Go.Proofs.YtmadhcoeiclalaaDoor
open Go Go.Sh Go.Pl Go.RowKit Go.Crc Go.Rec
theorem Own.blk {w : World} {e : TypeId} {s : Slc} {vs : List Value} (h : Own w e 1 s vs) (hne : s.a ≠ none) : ∃ b cur, s.a = some ⟨b, 0, none⟩ ∧ Blk w b cur e ∧ cur.toList.take vs.length = vs ∧ vs.length ≤ cur.size ∧ s.l ≤ s.c := by
  rcases h.2 with ⟨he, h0⟩ | ⟨g, cap, cur, he, _, hg, hnc, hcm, hcs, htake⟩
  · injection he with e1 _ _; exact absurd e1 hne
  · injection he with e1 e2 e3
    have hl : vs.length = s.l := by rw [h.len, Nat.mul_one]
    refine ⟨g, cur, e1, hg, by rw [hl]; simpa using htake, by rw [hl]; omega, by omega⟩
theorem law_CodecFlips {k0 : Int} {load : Slc} {bs : List UInt8} {at_ by_ : Int} {w : World} (ht : Tab w) (hk0 : (Lit.int .u8 k0).wf = true) (hb : Rd w load (U8 bs)) (hn : load.a = none → load.l = 0 ∧ load.c = 0) (hc : load.c ≤ reachBytes)
    (hw2 : (Lit.int .i64 at_).wf = true) (hw3 : (Lit.int .u8 by_).wf = true) :
    c_preludelaw01_CodecFlips k0 load at_ by_ w fun r w' => r = true ∧ Chg Nil w w' := by
  refine sim_preludelaw01_CodecFlips ?_
  unfold sh_preludelaw01_CodecFlips
  obtain ⟨k, rfl⟩ : ∃ k : UInt8, k0 = (k.toNat : Int) := ⟨_, (Row.toU8_toNat hk0).symm⟩
  obtain ⟨y, rfl⟩ : ∃ k : UInt8, by_ = (k.toNat : Int) := ⟨_, (Row.toU8_toNat hw3).symm⟩
  have lb := hb.len
  simp only [U8_length] at lb
  refine newP_intro fun w1 hc1 hb1 hs1 => ?_
  have hd1 : Drw w1 w1.drew := (Drw.refl w1).drew
  have hb1' := hb1.drw hd1
  refine ldI_of (n := (k.toNat : Int)) (by rw [hb1'.cell]; rfl) ?_
  refine ldS_of (s := load) (by rw [add_mk, hb1'.cell]; rfl) ?_
  refine ldI_of (n := at_) (by rw [add_mk, hb1'.cell]; rfl) ?_
  refine ldI_of (n := (y.toNat : Int)) (by rw [add_mk, hb1'.cell]; rfl) ?_
  have hc2 : Chg Nil w w1.drew := hc1.step (hd1.chg Nil) fun _ _ h => h
  refine iteB_intro (fun h => ⟨rfl, hc2⟩) (fun h => ?_)
  have hle : bs.length ≤ 16777216 := by simp [lb] at h; omega
  have hsb : sealB k bs = sealed k bs := by simp [sealB, hle]
  refine seal_ok (ht.chg hc2 fun h => h) (hb.chg hc2 fun _ _ h => h) hn fun s w3 ho3 hl3 hc3 hN3 hne3 => ?_
  rw [hsb] at ho3 hl3
  have hlen : s.l = bs.length + 13 := by rw [hl3, sealed_length]
  have hc3' : Chg Nil w w3 := hc2.step hc3 fun _ _ h => h
  refine iteB_neg (by rw [wrap_i64 (by omega)]; simp; omega) ?_
  have hop : opened (sealed k bs) 0 = ⟨k, bs, (bs.length : Int) + 13, 0⟩ := by
    have := opened_sealed (k := k) (l := bs) [] [] hle
    simpa using this
  refine opened_ok (ht.chg hc3' fun h => h) ho3.rd (by rw [sealed_length]; omega) fun l w4 ho4 hc4 hN4 hl4 hnil4 => ?_
  rw [hop] at ho4 hl4 ⊢
  have hc4' : Chg Nil w w4 := hc3'.step hc4 fun _ _ h => h
  refine iteB_neg (by simp) (iteB_neg (by simp) ?_)
  refine same_ok (xs := bs) ho4.rd (hb.chg hc4' fun _ _ h => h) (by omega) fun w5 hd5 => ?_
  have hc5 : Chg Nil w w5 := hc4'.step (hd5.chg Nil) fun _ _ h => h
  refine iteB_neg (by simp) (iteB_neg (by simp [hlen]) (iteB_intro (fun h => ⟨rfl, hc5⟩) (fun h => ?_)))
  have hy : y ≠ 0 := fun h0 => by rw [h0] at h; simp at h
  have elu : IntKind.u64.wrap (s.l : Int) = ((bs.length + 13 : Nat) : Int) := by rw [wrap_u64 (by omega), hlen]
  obtain ⟨p, hpe, hplt⟩ := place_of at_ (bs.length + 13) (by omega)
  rw [elu, hpe, wrap_i64 (by omega)]
  refine ⟨by omega, ?_⟩
  have ho5 : Own w5 5 1 s (U8 (sealed k bs)) := (ho3.chg hc4 fun _ _ h => h).chg (hd5.chg Nil) fun _ _ h => h
  obtain ⟨b, cur, hsa, hblk, htake, hcur, hlc⟩ := Own.blk ho5 (hne3 hle)
  have hsl : (sealed k bs).length = bs.length + 13 := sealed_length k bs
  have hbw : w.heap.size ≤ b := Nat.le_trans hc2.size (hN3 b (by simp [blkOf, hsa]))
  have hpc : p < cur.size := by simp only [U8_length] at hcur; omega
  have hcell : cur[p]? = some (.int .u8 (((sealed k bs).getD p 0).toNat : Int)) := by
    have h2 : (cur.toList.take (U8 (sealed k bs)).length)[p]? = (U8 (sealed k bs))[p]? := by rw [htake]
    rw [List.getElem?_take, if_pos (by simp; omega), U8_at _ (by omega)] at h2
    have : (sealed k bs)[p]'(by omega) = (sealed k bs).getD p 0 := by simp [List.getD, hsl, hplt]
    rw [this] at h2
    simpa using h2
  refine idxP_intro (by omega) (by omega) hsa ?_
  rw [add_mk, Nat.zero_add, Nat.mul_one, Int.toNat_natCast]
  refine ldI_of (by rw [hblk.cell]; exact hcell) ?_
  refine idxP_intro (by omega) (by omega) hsa ?_
  rw [add_mk, Nat.zero_add, Nat.mul_one, Int.toNat_natCast]
  refine stP_intro hblk hpc fun w6 hc6 hb6 hs6 => ?_
  rw [bXor_u8] at hb6
  have hr6 : Rd w6 s (U8 ((sealed k bs).set p ((sealed k bs).getD p 0 ^^^ y))) := by
    refine ⟨by rw [U8_length, List.length_set, hsl, hlen], hlc, fun i hi => ⟨⟨b, 0, none⟩, hsa, ?_⟩⟩
    simp only [U8_length, List.length_set, hsl] at hi
    rw [add_mk, Nat.zero_add, hb6.cell]
    have h2 : (cur.toList.take (U8 (sealed k bs)).length)[i]? = (U8 (sealed k bs))[i]? := by rw [htake]
    rw [List.getElem?_take, if_pos (by simp; omega)] at h2
    simp only [Array.getElem?_setIfInBounds]
    rw [U8, List.getElem?_map, List.getElem?_set]
    by_cases hip : p = i
    · subst hip
      simp only [if_true, if_pos hpc]
      rw [if_pos (by omega)]
      rfl
    · rw [if_neg hip, if_neg hip, ← List.getElem?_map]
      simpa [U8] using h2
  have hc6' : Chg Nil w w6 := hc5.step hc6 fun i hi h => by omega
  refine opened_ok (ht.chg hc6' fun h => h) hr6 (by simp; omega) fun l2 w7 ho7 hc7 hN7 hl7 _ => ?_
  rw [flipped hle (by omega) (xor_ne hy)]
  exact ⟨by simp, hc6'.step hc7 fun _ _ h => h⟩
end Go.Proofs.YtmadhcoeiclalaaDoor
