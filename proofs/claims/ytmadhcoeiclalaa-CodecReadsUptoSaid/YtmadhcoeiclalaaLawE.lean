/- LawE: awake; what every script's row gives; the law CodecOneForm. -/
import Derived.Test.YtmadhcoeiclalaaRd
import Derived.Test.YtmadhcoeiclalaaGt
set_option linter.unusedVariables false
set_option linter.unusedSimpArgs false
namespace Go.Pl
open Go Go.Sh Go.RowKit
theorem own_none {w : World} {e : TypeId} {size : Nat} {s : Slc} {vs : List Value} (h : Own w e size s vs) (hn : s.a = none) : s.l = 0 ∧ s.c = 0 := by
  rcases h.2 with ⟨he, h0⟩ | ⟨g, cap, cur, he, _⟩
  · injection he with _ e2 e3; exact ⟨e2, e3⟩
  · injection he with e1 _ _; rw [hn] at e1; cases e1
theorem chgNN {w w1 w2 : World} (h : Chg Nil w w1) (k : Chg Nil w1 w2) : Chg Nil w w2 := h.step k fun _ _ h => h
end Go.Pl
namespace Go.Num
structure Inv (bs : List UInt8) (at_ : Nat) (e : Int) (ws : List UInt8) (i : Nat) : Prop where
  eq : e = 0 → ws = bs.take at_
  few : ws.length ≤ at_ + i
  le : at_ ≤ bs.length
theorem take_more (bs : List UInt8) (a n : Nat) : bs.take a ++ (bs.drop a).take n = bs.take (a + n) := (List.take_add ..).symm
theorem inv_upto {bs ws : List UInt8} {at_ i most : Nat} {e : Int} (h : Inv bs at_ e ws i) : Inv bs (rUpto bs at_ e most).2.1 (rUpto bs at_ e most).2.2 (ws ++ encU (rUpto bs at_ e most).1) (i + 1) := by
  have e0 : (encU 0).length = 1 := by rw [encU_low (by omega)]; rfl
  have bad : ∀ d : Int, d ≠ 0 → Inv bs at_ d (ws ++ encU 0) (i + 1) := fun d hd => ⟨fun h0 => absurd h0 hd, by rw [List.length_append, e0]; have := h.few; omega, h.le⟩
  refine ⟨?_, ?_, rUpto_at h.le⟩ <;> unfold rUpto <;> split
  · rename_i he; exact (bad e he).eq
  · rename_i he
    rcases hd : dnum 0 0 (bs.drop at_) with ⟨n, k, d⟩
    simp only
    split
    · rename_i hd0; exact (bad d hd0).eq
    · split
      · exact (bad 12 (by omega)).eq
      · intro _
        have hd0 : d = 0 := by omega
        subst hd0
        have hok := dnum_ok hd
        rw [h.eq (by omega), ← hok.1, take_more]
  · rename_i he; exact (bad e he).few
  · rename_i he
    rcases hd : dnum 0 0 (bs.drop at_) with ⟨n, k, d⟩
    simp only
    split
    · rename_i hd0; exact (bad d hd0).few
    · split
      · exact (bad 12 (by omega)).few
      · have hd0 : d = 0 := by omega
        subst hd0
        have hok := dnum_ok hd
        have := h.few
        show (ws ++ encU n).length ≤ at_ + k + (i + 1)
        rw [List.length_append, ← hok.2.1]
        omega
theorem inv_raw {bs ws : List UInt8} {at_ i : Nat} {e n : Int} (h : Inv bs at_ e ws i) : Inv bs (rRaw bs at_ e n).2.1 (rRaw bs at_ e n).2.2 (ws ++ (rRaw bs at_ e n).1) (i + 1) := by
  have bad : ∀ d : Int, d ≠ 0 → Inv bs at_ d (ws ++ []) (i + 1) := fun d hd => ⟨fun h0 => absurd h0 hd, by have := h.few; simp; omega, h.le⟩
  refine ⟨?_, ?_, rRaw_at h.le⟩ <;> unfold rRaw <;> split
  · rename_i he; exact (bad e he).eq
  · split
    · exact (bad 11 (by omega)).eq
    · split
      · exact (bad 10 (by omega)).eq
      · intro _
        rw [h.eq (by omega), take_more]
  · rename_i he; exact (bad e he).few
  · split
    · exact (bad 11 (by omega)).few
    · split
      · exact (bad 10 (by omega)).few
      · have := h.few
        simp only [List.length_append, List.length_take, List.length_drop]
        omega
theorem inv_byte {bs ws : List UInt8} {at_ i : Nat} {e : Int} (h : Inv bs at_ e ws i) : Inv bs (rRaw bs at_ e 1).2.1 (rRaw bs at_ e 1).2.2 (ws ++ [(rRaw bs at_ e 1).1.getD 0 0]) (i + 1) := by
  have hr := inv_raw (n := 1) h
  have hf := h.few
  refine ⟨fun h0 => ?_, ?_, hr.le⟩
  · rw [← hr.eq h0]
    congr 1
    unfold rRaw at h0 ⊢
    split at h0
    · rename_i he; exact absurd h0 he
    · split at h0
      · simp at h0
      · split at h0
        · simp at h0
        · rename_i h1 h2 h3
          rw [if_neg h1, if_neg h2, if_neg h3]
          have hle := h.le
          have : at_ < bs.length := by omega
          show [((bs.drop at_).take (Int.toNat 1)).getD 0 0] = (bs.drop at_).take (Int.toNat 1)
          rw [List.drop_eq_getElem_cons this]
          rfl
  · rw [List.length_append]
    unfold rRaw
    split
    · simp; omega
    · split
      · simp; omega
      · split
        · simp; omega
        · simp; omega
theorem inv_bytes {bs ws : List UInt8} {at_ i : Nat} {e most : Int} (h : Inv bs at_ e ws i) : Inv bs (rBytes bs at_ e most).2.1 (rBytes bs at_ e most).2.2 (ws ++ (encU (rBytes bs at_ e most).1.length ++ (rBytes bs at_ e most).1)) (i + 1) := by
  have e0 : (encU 0).length = 1 := by rw [encU_low (by omega)]; rfl
  have bad : ∀ d : Int, d ≠ 0 → Inv bs at_ d (ws ++ (encU ([] : List UInt8).length ++ [])) (i + 1) := fun d hd => ⟨fun h0 => absurd h0 hd, by rw [List.length_append, List.append_nil, List.length_nil, e0]; have := h.few; omega, h.le⟩
  refine ⟨?_, ?_, rBytes_at h.le⟩ <;> unfold rBytes <;> split
  · rename_i he; exact (bad e he).eq
  · rename_i he
    rcases hd : dnum 0 0 (bs.drop at_) with ⟨n, k, d⟩
    simp only
    split
    · rename_i hd0; exact (bad d hd0).eq
    · split
      · exact (bad 12 (by omega)).eq
      · split
        · exact (bad 10 (by omega)).eq
        · intro _
          have hd0 : d = 0 := by omega
          subst hd0
          have hok := dnum_ok hd
          have hkl := hok.2.2.1
          have hl : ((bs.drop (at_ + k)).take n).length = n := by simp; simp at hkl; omega
          rw [hl, h.eq (by omega), ← hok.1, ← List.append_assoc, take_more, take_more]
  · rename_i he; exact (bad e he).few
  · rename_i he
    rcases hd : dnum 0 0 (bs.drop at_) with ⟨n, k, d⟩
    simp only
    split
    · rename_i hd0; exact (bad d hd0).few
    · split
      · exact (bad 12 (by omega)).few
      · split
        · exact (bad 10 (by omega)).few
        · have hd0 : d = 0 := by omega
          subst hd0
          have hok := dnum_ok hd
          have hkl := hok.2.2.1
          have hl : ((bs.drop (at_ + k)).take n).length = n := by simp; simp at hkl; omega
          have := h.few
          show (ws ++ (encU ((bs.drop (at_ + k)).take n).length ++ (bs.drop (at_ + k)).take n)).length ≤ at_ + k + n + (i + 1)
          rw [List.length_append, List.length_append, hl, ← hok.2.1]
          omega
end Go.Num
namespace Go.Proofs.Ytmadhcoeiclalaa
open Go Go.Sh Go.Pl Go.RowKit Go.Num Go.Gt
abbrev opG : G := .st (.pair (.int .i64) (.pair (.int .u64) (.pair .bytes (.pair (.int .i64) (.pair .bool .unit)))))
abbrev OpM : Type := Int × Int × List UInt8 × Int × Bool × Unit
/-- A call of a script, as its cells hold it. -/
structure OpAt (w : World) (ad : Addr) (s : Slc) (o : OpM) : Prop where
  c0 : w.cell? ad = some (.int .i64 o.1)
  c1 : w.cell? (ad.add 1) = some (.int .u64 o.2.1)
  c2 : w.cell? (ad.add 2) = some (.slice s.a s.l s.c)
  c3 : w.cell? (ad.add 3) = some (.int .i64 o.2.2.2.1)
  c4 : w.cell? (ad.add 4) = some (.bool o.2.2.2.2.1)
  rd : Rd w s (U8 o.2.2.1)
  no : s.a = none → s.l = 0 ∧ s.c = 0
  w0 : (Lit.int .i64 o.1).wf = true
  w1 : (Lit.int .u64 o.2.1).wf = true
  w3 : (Lit.int .i64 o.2.2.2.1).wf = true
theorem wf_i64 {n : Int} (h : (Lit.int .i64 n).wf = true) : -9223372036854775808 ≤ n ∧ n ≤ 9223372036854775807 := by
  simpa [Lit.wf, IntKind.min, IntKind.max, IntKind.signed, IntKind.bits] using h
theorem wf_u64 {n : Int} (h : (Lit.int .u64 n).wf = true) : 0 ≤ n ∧ n ≤ 18446744073709551615 := by
  simpa [Lit.wf, IntKind.min, IntKind.max, IntKind.signed, IntKind.bits] using h
theorem op_at {R : Nat} {w : World} {x : Slc} {os : List OpM} (h : Rep R w (.sl 56 opG) [.slice x.a x.l x.c] os) {w' : World} (hc : Chg Nil w w') {i : Nat} (hi : i < os.length) {K : Addr → Prop}
    (hK : ∀ ad s, OpAt w' ad s os[i] → K ad) : idxP x.a x.l (i : Int) 5 K := by
  obtain ⟨s, he, hl, hlc, hn, _, hx⟩ := h.chg hc
  have he' : x.a = s.a ∧ x.l = s.l ∧ x.c = s.c := by simpa using he
  have hl' : s.l = os.length := hl
  obtain ⟨ad, es, ha, hes, hcell, hr⟩ := hx i os[i] (List.getElem?_eq_getElem hi)
  obtain ⟨_, _, rfl, a0, hr⟩ := hr
  obtain ⟨⟨⟩, w0⟩ := a0
  obtain ⟨_, _, rfl, a0, hr⟩ := hr
  obtain ⟨⟨⟩, w1⟩ := a0
  obtain ⟨_, _, rfl, a0, hr⟩ := hr
  obtain ⟨s', ⟨⟩, hrd, hno, _⟩ := a0
  obtain ⟨_, _, rfl, a0, hr⟩ := hr
  obtain ⟨⟨⟩, w3⟩ := a0
  obtain ⟨_, _, rfl, a0, hr⟩ := hr
  obtain ⟨⟩ := a0
  obtain ⟨⟩ := hr
  refine ⟨by omega, by rw [he'.2.1]; omega, ad, by rw [he'.1, ha], ?_⟩
  rw [Int.toNat_natCast]
  have c := fun j hj => hcell j hj
  exact hK _ s' ⟨by simpa [G.sz] using hcell 0 (by decide), by simpa [G.sz] using hcell 1 (by decide), by simpa [G.sz] using hcell 2 (by decide), by simpa [G.sz] using hcell 3 (by decide), by simpa [G.sz] using hcell 4 (by decide), hrd, hno, w0, w1, w3⟩
/-- A copy of a call, cell by cell. -/
theorem op_copy {w : World} {t : TypeId} {z0 z1 z2 z3 z4 v0 v1 v2 v3 v4 : Value} {K : Addr → World → Prop}
    (hK : ∀ b w', Blk w' b #[v0, v1, v2, v3, v4] t → Chg Nil w w' → w.heap.size ≤ b → K ⟨b, 0, none⟩ w') :
    newP #[z0, z1, z2, z3, z4] t w fun a19 w20 => stP a19 v0 w20 fun w21 => stP (a19.add 1) v1 w21 fun w22 => stP (a19.add 2) v2 w22 fun w23 => stP (a19.add 3) v3 w23 fun w24 => stP (a19.add 4) v4 w24 fun w25 => K a19 w25 := by
  refine newP_intro fun w1 hc1 hb1 hs1 => ?_
  have st : ∀ {w2 : World} {cur : Array Value} {o : Nat} {v : Value} {K : World → Prop}, Blk w2 w.heap.size cur t → Chg Nil w w2 → o < cur.size → (∀ w', Blk w' w.heap.size (cur.setIfInBounds o v) t → Chg Nil w w' → K w') → stP ⟨w.heap.size, o, none⟩ v w2 K := fun hb hc ho hk =>
    stP_intro hb ho fun w' hc' hb' _ => hk w' hb' (hc.step hc' fun i hi he => by subst he; omega)
  simp only [add_mk]
  refine st hb1 hc1 (by simp) fun w2 hb2 hc2 => ?_
  refine st hb2 hc2 (by simp) fun w3 hb3 hc3 => ?_
  refine st hb3 hc3 (by simp) fun w4 hb4 hc4 => ?_
  refine st hb4 hc4 (by simp) fun w5 hb5 hc5 => ?_
  refine st hb5 hc5 (by simp) fun w6 hb6 hc6 => ?_
  exact hK _ w6 (by simpa using hb6) hc6 (Nat.le_refl _)
theorem awake_ok {w : World} {K : Bool → World → Prop} (hK : ∀ w', Chg Nil w w' → K true w') : c_preludelaw01_awake w K := by
  refine sim_preludelaw01_awake ?_
  unfold sh_preludelaw01_awake
  refine new_ok fun w1 hw1 hc1 hs1 => ?_
  refine iteB_neg rfl ?_
  have e300 : encU 300 = [172, 2] := by rw [encU_high (by omega), encU_low (by omega)]; rfl
  have em3 : encU (zig (-3)) = [5] := by rw [show zig (-3) = 5 from rfl, encU_low (by omega)]; rfl
  have e2 : encU 2 = [2] := by rw [encU_low (by omega)]; rfl
  refine wbyte_ok (c := 7) hw1 (by simp) fun s2 w2 hw2 g2 => ?_
  refine wuint_ok (n := 300) hw2 (by omega) (by simp) fun s3 w3 hw3 g3 => ?_
  refine wint_ok (n := -3) hw3 (by omega) (by simp [e300]) fun s4 w4 hw4 g4 => ?_
  have hN1 : NewS w.heap.size ⟨none, 0, 0⟩ := fun b h => by cases h
  have hc2 := g2.nil hc1 (Nat.le_refl _) hN1
  have hN2 := g2.new hN1 hc1.size
  have hc3 := g3.nil hc2 (Nat.le_refl _) hN2
  have hN3 := g3.new hN2 hc2.size
  have hc4 := g4.nil hc3 (Nat.le_refl _) hN3
  have hN4 := g4.new hN3 hc3.size
  refine newP_intro fun w5 hc5 hb5 hs5 => ?_
  have hc5' := chgNN hc4 hc5
  have hr5 : Rd w5 ⟨some ⟨w4.heap.size, 0, none⟩, 2, 2⟩ (U8 [1, 2]) := hb5.rd (o := 0) (l := 2) (c := 2) (by simp) (by omega)
  have hl4 := hw4.own.lt
  have hbl := hw4.blk.lt
  refine wbytes_ok (x := ⟨some ⟨w4.heap.size, 0, none⟩, 2, 2⟩) (xs := [1, 2]) (hw4.nil hc5) hr5 (fun h => by cases h) (fun k hk => by
    simp [blkOf] at hk; subst hk
    exact ⟨by omega, fun h => by have := hl4 _ h; omega⟩) (by simp [e300, em3]) fun s6 w6 hw6 g6 => ?_
  have hN6 := g6.new hN4 hc5'.size
  have hc6 := g6.nil hc5' (Nat.le_refl _) hN4
  have ebs : ([] ++ [7] ++ encU 300 ++ encU (zig (-3)) ++ (encU ([1, 2] : List UInt8).length ++ [1, 2])) = [7, 172, 2, 5, 2, 1, 2] := by
    rw [e300, em3, show ([1, 2] : List UInt8).length = 2 from rfl, e2]; rfl
  rw [ebs] at hw6
  refine wout_ok hw6 (by simp) fun l w7 ho7 hc7 hn7 hl7 hnil7 => ?_
  have hc7' := chgNN hc6 hc7
  refine newP_intro fun w8 hc8 hb8 hs8 => ?_
  have hc8' := chgNN hc7' hc8
  have hr8 : Rd w8 ⟨some ⟨w7.heap.size, 0, none⟩, 7, 7⟩ (U8 [7, 172, 2, 5, 2, 1, 2]) := hb8.rd (o := 0) (l := 7) (c := 7) (by simp) (by omega)
  have ho8 := ho7.chg hc8 fun _ _ h => h
  refine same_ok ho8.rd hr8 (by simp) fun w9 hd9 => ?_
  refine iteB_neg (by simp) ?_
  have hc9 := chgNN hc8' (hd9.chg Nil)
  have hw9 := ((hw6.nil hc7).nil hc8).nil (hd9.chg Nil)
  refine wlen_ok hw9 ?_
  refine iteB_neg (by simp) ?_
  have hr9 := ho8.rd.drw hd9
  refine read_ok (bs := [7, 172, 2, 5, 2, 1, 2]) hr9 (by simp) fun b s w10 hr10 hc10 hb10 hn10 _ => ?_
  have hc10' := chgNN hc9 hc10
  have fr : ∀ {wa wb : World}, Chg Nil w wa → w.heap.size ≤ b → Chg (Of b) wa wb → Chg Nil w wb := fun h hb k => h.step k fun i hi he => by subst he; omega
  have hbb : w.heap.size ≤ b := Nat.le_trans hc9.size hb10
  refine iteB_neg rfl ?_
  refine rbyte_ok hr10 fun w11 hr11 hc11 => ?_
  refine iteB_neg (by decide) ?_
  have q1 : rRaw [7, 172, 2, 5, 2, 1, 2] 0 0 1 = ([7], 1, 0) := by decide
  rw [q1] at hr11
  refine ruintN_ok hr11 fun w12 hr12 hc12 => ?_
  have q2 : rUpto [7, 172, 2, 5, 2, 1, 2] 1 0 18446744073709551615 = (300, 3, 0) := by decide
  simp only [q2] at hr12 ⊢
  refine iteB_neg (by decide) ?_
  refine rint_ok hr12 fun w13 hr13 hc13 => ?_
  have q3 : rUpto [7, 172, 2, 5, 2, 1, 2] 3 0 18446744073709551615 = (5, 4, 0) := by decide
  simp only [q3] at hr13 ⊢
  refine iteB_neg (by decide) ?_
  refine rbytes_ok (most := 2) hr13 (by omega) fun l w14 hr14 ho14 hc14 hn14 _ _ => ?_
  have q4 : rBytes [7, 172, 2, 5, 2, 1, 2] 4 0 2 = ([1, 2], 7, 0) := by decide
  rw [q4] at hr14 ho14
  refine newP_intro fun w15 hc15 hb15 hs15 => ?_
  have hr15 : Rd w15 ⟨some ⟨w14.heap.size, 0, none⟩, 2, 2⟩ (U8 [1, 2]) := hb15.rd (o := 0) (l := 2) (c := 2) (by simp) (by omega)
  refine same_ok (ho14.rd.chg hc15 fun _ _ h => h) hr15 (by simp) fun w16 hd16 => ?_
  refine iteB_pos (by simp) ?_
  refine rend_ok ((hr14.nil hc15).nil (hd16.chg Nil)) fun w17 hd17 => ?_
  have := hK w17 (chgNN (chgNN (chgNN (fr (fr (fr (fr hc10' hbb hc11) hbb hc12) hbb hc13) hbb hc14) hc15) (hd16.chg Nil)) (hd17.chg Nil))
  exact this
end Go.Proofs.Ytmadhcoeiclalaa
