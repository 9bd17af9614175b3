/- LawB: the laws on bursts and on flipped bytes, as contracts. -/
import Derived.Test.YtmadhcoeiclalaaDoorSeal
set_option linter.unusedVariables false
set_option linter.unusedSimpArgs false
namespace Go.Crc
/-- The bit at a place of a text. -/
def bitAt (bs : List UInt8) (p : Nat) : Bool := (bs.getD (p / 8) 0).toNat.testBit (p % 8)
theorem bitsOf_length (b : UInt8) : (bitsOf b).length = 8 := by simp [bitsOf]
theorem allBits_length (bs : List UInt8) : (allBits bs).length = 8 * bs.length := by
  induction bs with
  | nil => rfl
  | cons b bs ih =>
    show (bitsOf b ++ allBits bs).length = _
    rw [List.length_append, ih, bitsOf_length, List.length_cons]; omega
theorem allBits_at (bs : List UInt8) : ∀ p, p < 8 * bs.length → (allBits bs)[p]? = some (bitAt bs p) := by
  induction bs with
  | nil => intro p h; simp at h
  | cons b bs ih =>
    intro p h
    simp only [List.length_cons] at h
    show (bitsOf b ++ allBits bs)[p]? = _
    by_cases hp : p < 8
    · rw [List.getElem?_append_left (by rw [bitsOf_length]; exact hp)]
      have h0 : p / 8 = 0 := by omega
      have h1 : p % 8 = p := by omega
      simp [bitsOf, bitAt, h0, h1, hp]
    · rw [List.getElem?_append_right (by rw [bitsOf_length]; omega), bitsOf_length, ih (p - 8) (by omega)]
      have h0 : p / 8 = (p - 8) / 8 + 1 := by omega
      have h1 : p % 8 = (p - 8) % 8 := by omega
      simp [bitAt, h0, h1]
theorem word_bitsOf (b : UInt8) : word (bitsOf b) = w8 b := by
  have : ∀ n : Fin 256, word ((List.range 8).map fun k => n.val.testBit k) = BitVec.ofNat 32 n.val := by decide +kernel
  exact this ⟨b.toNat, b.toNat_lt⟩
theorem bitsOf_inj {a b : UInt8} (h : bitsOf a = bitsOf b) : a = b := by
  have h1 : w8 a = w8 b := by rw [← word_bitsOf, ← word_bitsOf, h]
  have h2 : (w8 a).toNat = (w8 b).toNat := by rw [h1]
  have ha := a.toNat_lt
  have hb := b.toNat_lt
  unfold w8 at h2
  rw [BitVec.toNat_ofNat, BitVec.toNat_ofNat, Nat.mod_eq_of_lt (by omega), Nat.mod_eq_of_lt (by omega)] at h2
  exact UInt8.toNat_inj.1 h2
theorem allBits_inj : ∀ {x y : List UInt8}, x.length = y.length → allBits x = allBits y → x = y
  | [], [], _, _ => rfl
  | [], _ :: _, h, _ => by simp at h
  | _ :: _, [], h, _ => by simp at h
  | a :: x, b :: y, h, he => by
    have he' : bitsOf a ++ allBits x = bitsOf b ++ allBits y := he
    have h2 := List.append_inj he' (by rw [bitsOf_length, bitsOf_length])
    rw [bitsOf_inj h2.1, allBits_inj (by simpa using h) h2.2]
/-- Texts of one length whose bits agree outside 32 places side by side. -/
theorem crc_near {x y : List UInt8} (hl : x.length = y.length) {f : Nat} (h : ∀ p, p < 8 * x.length → (p < f ∨ f + 32 ≤ p) → bitAt y p = bitAt x p) (hne : x ≠ y) : crc x ≠ crc y := by
  have split : ∀ l : List Bool, l = l.take f ++ ((l.drop f).take 32 ++ l.drop (f + 32)) := fun l => by
    rw [← List.drop_drop, List.take_append_drop, List.take_append_drop]
  have lx := allBits_length x
  have ly := allBits_length y
  have e1 : (allBits y).take f = (allBits x).take f := by
    apply List.ext_getElem?
    intro i
    rw [List.getElem?_take, List.getElem?_take]
    split
    · rename_i hi
      by_cases hp : i < 8 * x.length
      · rw [allBits_at x i hp, allBits_at y i (by omega), h i hp (.inl hi)]
      · rw [List.getElem?_eq_none (by omega), List.getElem?_eq_none (by omega)]
    · rfl
  have e2 : (allBits y).drop (f + 32) = (allBits x).drop (f + 32) := by
    apply List.ext_getElem?
    intro i
    rw [List.getElem?_drop, List.getElem?_drop]
    by_cases hp : f + 32 + i < 8 * x.length
    · rw [allBits_at x _ hp, allBits_at y _ (by omega), h _ hp (.inr (by omega))]
    · rw [List.getElem?_eq_none (by omega), List.getElem?_eq_none (by omega)]
  have hx := split (allBits x)
  have hy := split (allBits y)
  rw [e1, e2] at hy
  refine crc_burst hx hy (by simp only [List.length_take, List.length_drop]; omega) (by simp only [List.length_take]; omega) fun he => ?_
  rw [← he, ← hx] at hy
  exact hne (allBits_inj hl hy.symm)
theorem bitAt_set (bs : List UInt8) (j : Nat) (hj : j < bs.length) (v : UInt8) (p : Nat) (hp : p / 8 ≠ j) : bitAt (bs.set j v) p = bitAt bs p := by
  unfold bitAt
  simp only [List.getD, List.getElem?_set]
  rw [if_neg (fun h => hp h.symm)]
theorem bitAt_flip (bs : List UInt8) (q : Nat) (hq : q / 8 < bs.length) (p : Nat) (hp : p ≠ q) : bitAt (bs.set (q / 8) (bs.getD (q / 8) 0 ^^^ UInt8.ofNat (2 ^ (q % 8)))) p = bitAt bs p := by
  by_cases h : p / 8 = q / 8
  · unfold bitAt
    have hm : p % 8 ≠ q % 8 := by omega
    have h2 : 2 ^ (q % 8) < 256 := by
      have : 2 ^ (q % 8) ≤ 2 ^ 7 := Nat.pow_le_pow_right (by omega) (by omega)
      omega
    rw [h]
    simp only [List.getD, List.getElem?_set, if_true, if_pos hq, Option.getD_some]
    rw [UInt8.toNat_xor, UInt8.toNat_ofNat', Nat.mod_eq_of_lt h2, Nat.testBit_xor, Nat.testBit_two_pow]
    rw [decide_eq_false (fun h => hm h.symm), Bool.xor_false]
  · exact bitAt_set bs _ hq _ p h
/-- One byte other: the sums differ. -/
theorem crc_set {bs : List UInt8} {j : Nat} {v : UInt8} (hj : j < bs.length) (hv : v ≠ bs.getD j 0) : crc bs ≠ crc (bs.set j v) := by
  refine crc_near (f := 8 * j) (by simp) (fun p _ hp => bitAt_set bs j hj v p (by omega)) fun he => hv ?_
  have h2 := congrArg (fun l => l.getD j 0) he
  simp only [List.getD, List.getElem?_set, if_true, if_pos hj, Option.getD_some] at h2
  exact h2.symm
theorem xor_ne {a b : UInt8} (hb : b ≠ 0) : a ^^^ b ≠ a := fun h => hb (by
  have h2 : a ^^^ (a ^^^ b) = a ^^^ a := by rw [h]
  rwa [← UInt8.xor_assoc, UInt8.xor_self, UInt8.zero_xor] at h2)
end Go.Crc
namespace Go.Proofs.YtmadhcoeiclalaaDoor
open Go Go.Sh Go.Pl Go.RowKit Go.Crc Go.Rec
theorem bXor_u8 (a b : UInt8) : bXor .u8 (a.toNat : Int) (b.toNat : Int) = ((a ^^^ b).toNat : Int) := by
  have h1 : BitVec.ofInt 8 (a.toNat : Int) = BitVec.ofNat 8 a.toNat := by simp
  have h2 : BitVec.ofInt 8 (b.toNat : Int) = BitVec.ofNat 8 b.toNat := by simp
  show IntKind.u8.wrap (((BitVec.ofInt 8 (a.toNat : Int) ^^^ BitVec.ofInt 8 (b.toNat : Int)).toNat : Nat) : Int) = _
  have ha := a.toNat_lt
  have hb := b.toNat_lt
  rw [h1, h2, BitVec.toNat_xor, BitVec.toNat_ofNat, BitVec.toNat_ofNat, Nat.mod_eq_of_lt (by omega), Nat.mod_eq_of_lt (by omega), ← UInt8.toNat_xor]
  have hx := (a ^^^ b).toNat_lt
  rw [wrap_u8 (by omega)]
theorem U8_set (cs : List UInt8) (j : Nat) (v : UInt8) : (U8 cs).toArray.setIfInBounds j (.int .u8 (v.toNat : Int)) = (U8 (cs.set j v)).toArray := by
  rw [← Array.toList_inj]
  simp [U8, List.map_set]
theorem wrap_u64_mod (x : Int) : 0 ≤ IntKind.u64.wrap x ∧ IntKind.u64.wrap x < 18446744073709551616 := by
  simp [IntKind.wrap, IntKind.signed, IntKind.bits]; omega
theorem place_of (x : Int) (n : Nat) (hn : 0 < n) : ∃ f : Nat, Int.tmod (IntKind.u64.wrap x) (n : Int) = (f : Int) ∧ f < n := by
  have h := wrap_u64_mod x
  refine ⟨(IntKind.u64.wrap x).toNat % n, ?_, Nat.mod_lt _ hn⟩
  rw [Int.tmod_eq_emod_of_nonneg h.1]
  have : IntKind.u64.wrap x = ((IntKind.u64.wrap x).toNat : Int) := by omega
  rw [this]; simp
theorem law_CodecBursts {b : Slc} {bs : List UInt8} {x1 x2 : Int} {w : World} (ht : Tab w) (hb : Rd w b (U8 bs)) (hn' : b.a = none → b.l = 0 ∧ b.c = 0) (hc : b.c ≤ reachBytes) (w1 : (Lit.int .i64 x1).wf = true) (w2 : (Lit.int .u32 x2).wf = true) :
    c_preludelaw01_CodecBursts b x1 x2 w fun r w' => r = true ∧ Chg Nil w w' := by
  refine sim_preludelaw01_CodecBursts ?_
  unfold sh_preludelaw01_CodecBursts
  have lb := hb.len
  simp only [U8_length] at lb
  have hn : b.a = none → b.l = 0 := fun h => (hn' h).1
  have hl : bs.length ≤ 140737488351232 := by
    have h1 := hb.cap
    have h2 : reachBytes = 140737488351232 := by decide
    omega
  refine copied_ok hb hn hl fun w1 hc1 hb1 hs1 => ?_
  have tail : ∀ (w2 : World) (cs : List UInt8), Chg Nil w w2 → Blk w2 w.heap.size (U8 cs).toArray 5 → cs.length = bs.length → (bs ≠ cs → crc bs ≠ crc cs) →
      c_codec_Sum b w2 fun r11 w12 => c_codec_Sum ⟨some ⟨w.heap.size, 0, none⟩, bs.length, bs.length⟩ w12 fun r13 w14 => c_preludelaw01_same b ⟨some ⟨w.heap.size, 0, none⟩, bs.length, bs.length⟩ w14 fun r15 w16 => (((r11 : Int) == r13) == r15) = true ∧ Chg Nil w w16 := by
    intro w2 cs hc2 hb2 hcl hne
    have hr2 : Rd w2 ⟨some ⟨w.heap.size, 0, none⟩, bs.length, bs.length⟩ (U8 cs) := by
      have := hb2.rd (o := 0) (l := bs.length) (c := bs.length) (by simp [hcl]) (by omega)
      rw [List.drop_zero, U8_take, List.take_of_length_le (by omega)] at this
      exact this
    have hbw := hb.chg hc2 fun _ _ h => h
    have ht2 := ht.chg hc2 fun h => h
    refine sum_ok ht2 hbw (by omega) (sum_ok ht2 hr2 (by omega) (same_ok hbw hr2 (by omega) fun w3 hd3 => ⟨?_, hc2.step (hd3.chg Nil) fun _ _ h => h⟩))
    by_cases he : bs = cs
    · subst he; simp
    · have hx := hne he
      have hz : ¬ (((crc bs).toNat : Int) = ((crc cs).toNat : Int)) := fun h => hx (BitVec.eq_of_toNat_eq (Int.ofNat.inj h))
      rw [decide_eq_false he, beq_eq_false_iff_ne.2 hz]
      rfl
  refine iteB_intro (fun h => ?_) (fun h => ?_)
  · have hpos : 0 < bs.length := by simp [lb] at h; omega
    have e8 : IntKind.i64.wrap (8 * (b.l : Int)) = ((8 * bs.length : Nat) : Int) := by rw [wrap_i64 (by omega), lb]; omega
    have e8u : IntKind.u64.wrap ((8 * bs.length : Nat) : Int) = ((8 * bs.length : Nat) : Int) := wrap_u64 (by omega)
    obtain ⟨f, hf, hflt⟩ := place_of x1 (8 * bs.length) (by omega)
    have hfw : IntKind.i64.wrap (f : Int) = (f : Int) := wrap_i64 (by omega)
    simp only [e8, e8u, hf, hfw]
    refine ⟨by omega, ?_⟩
    refine loopP_inv (fun st w2 => ∃ (k : Nat) (cs : List UInt8), st.1 = (k : Int) ∧ k ≤ 32 ∧ Chg Nil w w2 ∧ Blk w2 w.heap.size (U8 cs).toArray 5 ∧ cs.length = bs.length ∧
      ∀ p, p < 8 * bs.length → (p < f ∨ f + 32 ≤ p) → bitAt cs p = bitAt bs p) (fun st _ => 32 - st.1.toNat) ⟨0, bs, rfl, by omega, hc1, hb1, rfl, fun _ _ _ => rfl⟩ ?_
    rintro ⟨i, u⟩ w2 next ⟨k, cs, rfl, hk, hc2, hb2, hcl, hbits⟩ hnext
    simp only
    refine iteB_intro (fun h => ?_) (fun h => ?_)
    · have hlt : k < 32 := by simp at h; omega
      have ek : IntKind.i64.wrap ((k : Int) + 1) = ((k + 1 : Nat) : Int) := by rw [wrap_i64 (by omega)]; omega
      have ep : IntKind.i64.wrap ((f : Int) + (k : Int)) = ((f + k : Nat) : Int) := by rw [wrap_i64 (by omega)]; omega
      have same : ∀ w3, Chg Nil w w3 → Blk w3 w.heap.size (U8 cs).toArray 5 → next (((k + 1 : Nat) : Int), ()) w3 := fun w3 hc3 hb3 =>
        hnext _ _ ⟨k + 1, cs, rfl, hlt, hc3, hb3, hcl, hbits⟩ (by simp; omega)
      simp only [ek, ep]
      refine iteB_intro (fun h => ?_) (fun h => same w2 hc2 hb2)
      have hp : f + k < 8 * bs.length := by simp at h; omega
      refine ⟨by omega, ?_⟩
      refine iteB_intro (fun h => ?_) (fun h => same w2 hc2 hb2)
      have ed : IntKind.i64.wrap (Int.tdiv ((f + k : Nat) : Int) 8) = (((f + k) / 8 : Nat) : Int) := by
        have : Int.tdiv ((f + k : Nat) : Int) 8 = (((f + k) / 8 : Nat) : Int) := by
          rw [Int.tdiv_eq_ediv_of_nonneg (by omega)]; omega
        rw [this, wrap_i64 (by omega)]
      have em : Int.tmod ((f + k : Nat) : Int) 8 = (((f + k) % 8 : Nat) : Int) := by
        rw [Int.tmod_eq_emod_of_nonneg (by omega)]; omega
      have es : IntKind.u8.wrap (1 * 2 ^ (min (Int.toNat (((f + k) % 8 : Nat) : Int)) (IntKind.bits .u8))) = ((UInt8.ofNat (2 ^ ((f + k) % 8))).toNat : Int) := by
        have : min (Int.toNat (((f + k) % 8 : Nat) : Int)) (IntKind.bits .u8) = (f + k) % 8 := by simp only [Int.toNat_natCast, IntKind.bits]; omega
        rw [this, ← wrap_u8_nat]; simp
      rw [ed, em, es]
      refine ⟨by omega, ⟨by omega, ?_⟩⟩
      refine idxP_intro (by omega) (by omega) rfl ?_
      rw [add_mk, Nat.zero_add, Nat.mul_one, Int.toNat_natCast]
      have hcell : (w2.drew).cell? ⟨w.heap.size, (f + k) / 8, none⟩ = some (.int .u8 ((cs.getD ((f + k) / 8) 0).toNat : Int)) := by
        have h2 := (hb2.drw (Drw.refl w2).drew).cell ((f + k) / 8)
        rw [h2]
        have hx : (f + k) / 8 < cs.length := by omega
        simp [U8, hx]
      refine ldI_of hcell ⟨by omega, ⟨by omega, ?_⟩⟩
      refine idxP_intro (by omega) (by omega) rfl ?_
      rw [add_mk, Nat.zero_add, Nat.mul_one, Int.toNat_natCast]
      refine stP_intro (hb2.drw (Drw.refl w2).drew) (by simp; omega) fun w3 hc3 hb3 hs3 => ?_
      rw [bXor_u8, U8_set] at hb3
      refine hnext _ _ ⟨k + 1, _, rfl, hlt, (hc2.step ((Drw.refl w2).drew.chg Nil) fun _ _ h => h).step hc3 fun i hi h => by omega, hb3, by simp [hcl], fun p hp2 hout => ?_⟩ (by simp; omega)
      rw [bitAt_flip cs (f + k) (by omega) p (by omega)]
      exact hbits p hp2 hout
    · exact tail w2 cs hc2 hb2 hcl fun hne => crc_near hcl.symm hbits hne
  · have h0 : bs.length = 0 := by simp at h; omega
    have hnil : bs = [] := List.eq_nil_of_length_eq_zero h0
    exact tail w1 bs hc1 hb1 rfl fun hne => absurd rfl hne
end Go.Proofs.YtmadhcoeiclalaaDoor
