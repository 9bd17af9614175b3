/- Sum: what the program's and the document's check sums come to. -/
import Derived.Test.YtgpdecfcjpblgaaDoorBy
import Derived.Test.YtgpdecfcjpblgaaDoorCrc
set_option linter.unusedVariables false
set_option linter.unusedSimpArgs false
namespace Go.Proofs.YtgpdecfcjpblgaaDoor
open Go Go.Sh Go.Pl Go.RowKit Go.Crc
theorem ofInt32 (a : BitVec 32) : BitVec.ofInt 32 (a.toNat : Int) = a := by
  apply BitVec.eq_of_toNat_eq
  simp
theorem wrap32 (a : BitVec 32) : IntKind.u32.wrap (a.toNat : Int) = (a.toNat : Int) := wrap_u32 (by have := a.isLt; omega)
theorem bXor_u32 (a b : BitVec 32) : bXor .u32 (a.toNat : Int) (b.toNat : Int) = ((a ^^^ b).toNat : Int) := by
  show IntKind.u32.wrap (((BitVec.ofInt 32 (a.toNat : Int) ^^^ BitVec.ofInt 32 (b.toNat : Int)).toNat : Nat) : Int) = _
  rw [ofInt32, ofInt32, wrap32]
theorem bAnd_u32 (a b : BitVec 32) : bAnd .u32 (a.toNat : Int) (b.toNat : Int) = ((a &&& b).toNat : Int) := by
  show IntKind.u32.wrap (((BitVec.ofInt 32 (a.toNat : Int) &&& BitVec.ofInt 32 (b.toNat : Int)).toNat : Nat) : Int) = _
  rw [ofInt32, ofInt32, wrap32]
theorem shr_u32 (a : BitVec 32) (n : Nat) (h : n < 32) : Int.fdiv (a.toNat : Int) (2 ^ (min (Int.toNat (n : Int)) (IntKind.bits .u32))) = ((a >>> n).toNat : Int) := by
  have e : min (Int.toNat (n : Int)) (IntKind.bits .u32) = n := by simp [IntKind.bits]; omega
  rw [e, BitVec.toNat_ushiftRight, Nat.shiftRight_eq_div_pow, Int.fdiv_eq_ediv_of_nonneg _ (Int.le_of_lt (Int.pow_pos (by omega)))]
  simp
theorem u32_of_u8 (b : UInt8) : IntKind.u32.wrap (b.toNat : Int) = ((w8 b).toNat : Int) := by
  have := b.toNat_lt
  rw [wrap_u32 (by omega)]
  simp [w8]
/-- The table lies where the program reads it. -/
def Tab (w : World) : Prop := ∀ i, i < 16 → w.cell? ⟨0, i, none⟩ = some (.int .u32 ((T i).toNat : Int))
theorem Tab.chg {w w' : World} {S : Nat → Prop} (h : Tab w) (hc : Chg S w w') (hn : ¬ S 0) : Tab w' := fun i hi => cell_chg hc (h i hi) hn
theorem sum_ok {b : Slc} {bs : List UInt8} {w : World} {K : Int → World → Prop} (ht : Tab w) (hb : Rd w b (U8 bs)) (hl : bs.length ≤ 9000000000000000000)
    (hK : K ((crc bs).toNat : Int) w) : c_codec_Sum b w K := by
  refine sim_codec_Sum ?_
  unfold sh_codec_Sum
  have lb := hb.len
  simp only [U8_length] at lb
  refine loopP_inv (fun st w1 => w1 = w ∧ ∃ i : Nat, st.2.1 = (i : Int) ∧ i ≤ bs.length ∧ st.1 = ((Crc.run (bs.take i) 4294967295#32).toNat : Int)) (fun st _ => bs.length - st.2.1.toNat) ⟨rfl, 0, rfl, Nat.zero_le _, rfl⟩ ?_
  rintro ⟨s, i, u⟩ w1 next ⟨rfl, k, rfl, hk, rfl⟩ hnext
  simp only
  generalize hs : Crc.run (bs.take k) 4294967295#32 = s
  refine iteB_intro (fun h => ?_) (fun h => ?_)
  · have hlt : k < bs.length := by simp [lb] at h; omega
    refine hb.idx (by omega) (by simpa using hlt) fun ad had => ?_
    refine ldI_of (n := (bs[k].toNat : Int)) (by rw [had]; simpa using U8_at bs hlt) ?_
    have e4 : ∀ x : BitVec 32, Int.fdiv (x.toNat : Int) (2 ^ (min (Int.toNat 4) (IntKind.bits .u32))) = ((x >>> 4).toNat : Int) := fun x => shr_u32 x 4 (by omega)
    have e15 : ∀ x : BitVec 32, bAnd .u32 (x.toNat : Int) 15 = ((x &&& 15#32).toNat : Int) := fun x => bAnd_u32 x 15#32
    have ea : ∀ x : BitVec 32, (⟨0, 0, none⟩ : Addr).add (Int.toNat ((x &&& 15#32).toNat : Int) * 1) = ⟨0, (x &&& 15#32).toNat, none⟩ := fun x => by rw [add_mk]; simp
    have hr : ∀ x : BitVec 32, ((x &&& 15#32).toNat : Int) < (16 : Nat) := fun x => by have := and15_lt x; omega
    simp only [u32_of_u8, bXor_u32, e4, e15, ea]
    refine ⟨by omega, by omega, hr _, ?_⟩
    refine ldI_of (ht _ (and15_lt _)) ?_
    simp only [bXor_u32, e4, e15, ea]
    refine ⟨by omega, by omega, hr _, ?_⟩
    refine ldI_of (ht _ (and15_lt _)) ?_
    simp only [bXor_u32, e4]
    rw [wrap_i64 (by omega)]
    refine hnext _ _ ⟨rfl, k + 1, rfl, hlt, ?_⟩ (by simp; omega)
    rw [List.take_succ_eq_append_getElem hlt]
    simp only [Crc.run, List.foldl_append, List.foldl_cons, List.foldl_nil] at hs ⊢
    rw [hs]
    rfl
  · have hge : k = bs.length := by simp [lb] at h; omega
    subst hge
    rw [List.take_length] at hs
    have hm : (IntKind.max .u32 : Int) = ((4294967295#32).toNat : Int) := by decide
    rw [hm, bXor_u32, ← hs]
    exact hK
theorem inBit_step (rest : BitVec 32) (t : Bool) : inBit rest t = if t != rest.getLsbD 0 then (rest >>> 1) ^^^ poly else rest >>> 1 := rfl
theorem low_bit (a : BitVec 32) : bAnd .u32 (a.toNat : Int) 1 = if a.getLsbD 0 then 1 else 0 := by
  rw [show (1 : Int) = ((1#32).toNat : Int) from by decide, bAnd_u32, BitVec.toNat_and, show (1#32).toNat = 1 from by decide, Nat.and_one_is_mod]
  have : a.getLsbD 0 = decide (a.toNat % 2 = 1) := by rw [BitVec.getLsbD]; simp [Nat.testBit_zero]
  rw [this]
  rcases Nat.mod_two_eq_zero_or_one a.toNat with h | h <;> simp [h]
theorem byte_bit (b : UInt8) (k : Nat) (hk : k < 8) : bAnd .u32 (IntKind.u32.wrap (Int.fdiv (b.toNat : Int) (2 ^ (min (Int.toNat (k : Int)) (IntKind.bits .u8))))) 1 = if b.toNat.testBit k then 1 else 0 := by
  have e : min (Int.toNat (k : Int)) (IntKind.bits .u8) = k := by simp [IntKind.bits]; omega
  have hb := b.toNat_lt
  have hd : b.toNat / 2 ^ k ≤ b.toNat := Nat.div_le_self _ _
  have e1 : Int.fdiv (b.toNat : Int) (2 ^ k) = ((b.toNat / 2 ^ k : Nat) : Int) := by
    rw [Int.fdiv_eq_ediv_of_nonneg _ (Int.le_of_lt (Int.pow_pos (by omega)))]; simp
  have e2 : ((b.toNat / 2 ^ k : Nat) : Int) = ((BitVec.ofNat 32 (b.toNat / 2 ^ k)).toNat : Int) := by
    rw [BitVec.toNat_ofNat, Nat.mod_eq_of_lt (by omega)]
  rw [e, e1, wrap_u32 (by omega), e2, low_bit]
  have : (BitVec.ofNat 32 (b.toNat / 2 ^ k)).getLsbD 0 = b.toNat.testBit k := by
    simp only [BitVec.getLsbD_ofNat]
    rw [Nat.testBit_zero, Nat.testBit_eq_decide_div_mod_eq]; simp
  rw [this]
theorem b01 (t z : Bool) : ((if t = true then (1 : Int) else 0) != (if z = true then 1 else 0)) = (t != z) := by cases t <;> cases z <;> rfl
theorem refSum_ok {b : Slc} {bs : List UInt8} {w : World} {K : Int → World → Prop} (hb : Rd w b (U8 bs)) (hl : bs.length ≤ 9000000000000000000)
    (hK : K ((crc bs).toNat : Int) w) : c_preluderef01_Sum b w K := by
  refine sim_preluderef01_Sum ?_
  unfold sh_preluderef01_Sum
  have lb := hb.len
  simp only [U8_length] at lb
  refine loopP_inv (fun st w1 => w1 = w ∧ ∃ i : Nat, st.2.1 = (i : Int) ∧ i ≤ bs.length ∧ st.1 = ((Crc.run (bs.take i) 4294967295#32).toNat : Int)) (fun st _ => bs.length - st.2.1.toNat) ⟨rfl, 0, rfl, Nat.zero_le _, rfl⟩ ?_
  rintro ⟨s, i, u⟩ w1 next ⟨rfl, k, rfl, hk, rfl⟩ hnext
  simp only
  refine iteB_intro (fun h => ?_) (fun h => ?_)
  · have hlt : k < bs.length := by simp [lb] at h; omega
    refine loopP_inv (fun st w2 => w2 = w1 ∧ ∃ j : Nat, st.2.1 = (j : Int) ∧ j ≤ 8 ∧ st.1 = ((Crc.bits ((bitsOf bs[k]).take j) (Crc.run (bs.take k) 4294967295#32)).toNat : Int)) (fun st _ => 8 - st.2.1.toNat) ⟨rfl, 0, rfl, Nat.zero_le _, rfl⟩ ?_
    rintro ⟨rest, j, u'⟩ w2 next2 ⟨rfl, m, rfl, hm, rfl⟩ hnext2
    simp only
    refine iteB_intro (fun h => ?_) (fun h => ?_)
    · have hm8 : m < 8 := by simp at h; omega
      refine hb.idx (by omega) (by simpa using hlt) fun ad had => ?_
      refine ldI_of (n := (bs[k].toNat : Int)) (by rw [had]; simpa using U8_at bs hlt) ?_
      refine ⟨by omega, by omega, ?_⟩
      have hstep : Crc.bits ((bitsOf bs[k]).take (m + 1)) (Crc.run (bs.take k) 4294967295#32) = inBit (Crc.bits ((bitsOf bs[k]).take m) (Crc.run (bs.take k) 4294967295#32)) (bs[k].toNat.testBit m) := by
        rw [List.take_succ_eq_append_getElem (by simp [bitsOf]; omega), bits_append]
        simp [Crc.bits, bitsOf]
      generalize hs : Crc.bits ((bitsOf bs[k]).take m) (Crc.run (bs.take k) 4294967295#32) = s at hstep
      have e1 : Int.fdiv (s.toNat : Int) (2 ^ (min (Int.toNat 1) (IntKind.bits .u32))) = ((s >>> 1).toNat : Int) := shr_u32 s 1 (by omega)
      have ep : (3988292384 : Int) = (poly.toNat : Int) := by decide
      rw [byte_bit _ _ hm8, low_bit, e1, ep, bXor_u32, wrap_i64 (by omega), b01]
      refine iteB_intro (fun h => ?_) (fun h => ?_)
      · refine hnext2 _ _ ⟨rfl, m + 1, rfl, hm8, ?_⟩ (by simp; omega)
        have this := h
        rw [hstep, inBit_step, if_pos this]
      · refine hnext2 _ _ ⟨rfl, m + 1, rfl, hm8, ?_⟩ (by simp; omega)
        have this := h
        rw [hstep, inBit_step, this]; rfl
    · have hm8 : m = 8 := by simp at h; omega
      subst hm8
      rw [wrap_i64 (by omega)]
      refine hnext _ _ ⟨rfl, k + 1, rfl, hlt, ?_⟩ (by simp; omega)
      rw [List.take_succ_eq_append_getElem hlt]
      simp only [Crc.run, List.foldl_append, List.foldl_cons, List.foldl_nil]
      rw [← bits_byte, List.take_of_length_le (by simp [bitsOf])]
  · have hge : k = bs.length := by simp [lb] at h; omega
    subst hge
    have hm : (IntKind.max .u32 : Int) = ((4294967295#32).toNat : Int) := by decide
    rw [hm, bXor_u32, List.take_length]
    exact hK
end Go.Proofs.YtgpdecfcjpblgaaDoor
