/- Wr: what a Writer's calls come to. -/
import Derived.Test.YtlnhecbgjjglfaaGreatBy
import Derived.Test.YtlnhecbgjjglfaaGreatNum
set_option linter.unusedVariables false
set_option linter.unusedSimpArgs false
namespace Go.Pl
open Go Go.Sh Go.RowKit
theorem wrap_u8_nat (n : Nat) : IntKind.u8.wrap (n : Int) = ((UInt8.ofNat n).toNat : Int) := by
  rw [UInt8.toNat_ofNat']
  simp [IntKind.wrap, IntKind.signed, IntKind.bits]
theorem bOr_u64 {x y : Nat} (hx : x < 18446744073709551616) (hy : y < 18446744073709551616) : bOr .u64 (x : Int) (y : Int) = ((x ||| y : Nat) : Int) := by
  have h1 : BitVec.ofInt 64 (x : Int) = BitVec.ofNat 64 x := by simp
  have h2 : BitVec.ofInt 64 (y : Int) = BitVec.ofNat 64 y := by simp
  show IntKind.u64.wrap (((BitVec.ofInt 64 (x : Int) ||| BitVec.ofInt 64 (y : Int)).toNat : Nat) : Int) = _
  rw [h1, h2, BitVec.toNat_or, BitVec.toNat_ofNat, BitVec.toNat_ofNat, Nat.mod_eq_of_lt (by omega), Nat.mod_eq_of_lt (by omega)]
  have : x ||| y < 2 ^ 64 := Nat.or_lt_two_pow (by omega) (by omega)
  rw [wrap_u64 (by omega)]
theorem bOr_u8_128 (n : Nat) : bOr .u8 (IntKind.u8.wrap (n : Int)) 128 = ((UInt8.ofNat (n % 128 + 128)).toNat : Int) := by
  have hw : IntKind.u8.wrap (n : Int) = ((n % 256 : Nat) : Int) := by simp [IntKind.wrap, IntKind.signed, IntKind.bits]
  have h : ∀ m : Fin 256, bOr .u8 (m.val : Int) 128 = ((m.val % 128 + 128 : Nat) : Int) := by decide +kernel
  rw [hw, h ⟨n % 256, Nat.mod_lt _ (by omega)⟩, UInt8.toNat_ofNat']
  congr 1
  simp only
  omega
theorem fdiv_pow (n k : Nat) : Int.fdiv (n : Int) (2 ^ k) = ((n / 2 ^ k : Nat) : Int) := by
  rw [Int.fdiv_eq_ediv_of_nonneg _ (Int.le_of_lt (Int.pow_pos (by omega)))]
  simp
/-- Only a block and a slice's block may have changed; the slice's new block is the old one or a new one. -/
structure WSt (b : Nat) (s s' : Slc) (w w' : World) : Prop where
  chg : Chg (fun k => k = b ∨ some k = blkOf s) w w'
  blk : ∀ k, blkOf s' = some k → blkOf s = some k ∨ w.heap.size ≤ k
theorem WSt.refl (b : Nat) (s : Slc) (w : World) : WSt b s s w w := ⟨Chg.refl _ _, fun k h => .inl h⟩
theorem WSt.trans {b : Nat} {s s1 s2 : Slc} {w w1 w2 : World} (h : WSt b s s1 w w1) (k : WSt b s1 s2 w1 w2) : WSt b s s2 w w2 :=
  ⟨h.chg.step k.chg fun i hi he => by
    rcases he with he | he
    · exact .inl he
    · rcases h.blk i he.symm with h1 | h1
      · exact .inr h1.symm
      · omega,
   fun b hb => by
    rcases k.blk b hb with h1 | h1
    · exact h.blk b h1
    · exact .inr (Nat.le_trans h.chg.size h1)⟩
theorem WSt.after {b : Nat} {s s' : Slc} {w w1 w2 : World} (h : Chg Nil w w1) (k : WSt b s s' w1 w2) : WSt b s s' w w2 :=
  ⟨(h.mono fun _ _ h => h.elim).step k.chg fun i hi he => he, fun b hb => (k.blk b hb).imp id fun h1 => Nat.le_trans h.size h1⟩
theorem WSt.then {b : Nat} {s s' : Slc} {w w1 w2 : World} (h : WSt b s s' w w1) (k : Chg Nil w1 w2) : WSt b s s' w w2 := ⟨h.chg.step k fun i hi he => he.elim, h.blk⟩
theorem WSt.gr {b : Nat} {s s' : Slc} {w w' w'' : World} (h : Gr s w s' w') (k : Chg (fun k => k = b) w' w'') : WSt b s s' w w'' :=
  ⟨(h.chg.mono fun i _ h => Or.inr h).step k fun i hi he => .inl he, h.blk⟩
/-- All that may have changed lies in memory that is new since a first world. -/
theorem WSt.nil {b : Nat} {s s' : Slc} {w0 w w' : World} (hc : Chg Nil w0 w) (hb : w0.heap.size ≤ b) (hs : NewS w0.heap.size s) (g : WSt b s s' w w') : Chg Nil w0 w' :=
  hc.step g.chg fun i hi he => by
    rcases he with he | he
    · omega
    · have := hs i he.symm; omega
theorem WSt.new {b : Nat} {s s' : Slc} {n : Nat} {w w' : World} (hs : NewS n s) (g : WSt b s s' w w') (hn : n ≤ w.heap.size) : NewS n s' := fun k hk => (g.blk k hk).elim (hs k) fun h => by omega
end Go.Pl
namespace Go.Proofs.YtlnhecbgjjglfaaGreat
open Go Go.Sh Go.Pl Go.RowKit Go.Num
/-- A Writer that has these bytes. -/
structure Wr (w : World) (b : Nat) (s : Slc) (bs : List UInt8) : Prop where
  blk : Blk w b #[.slice s.a s.l s.c] 119
  own : Own w 5 1 s (U8 bs)
  ne : blkOf s ≠ some b
theorem Wr.len {w : World} {b : Nat} {s : Slc} {bs : List UInt8} (h : Wr w b s bs) : s.l = bs.length := by have := h.own.rd.len; simpa using this
theorem Wr.chg {S : Nat → Prop} {w w' : World} {b : Nat} {s : Slc} {bs : List UInt8} (h : Wr w b s bs) (hc : Chg S w w') (hb : ¬ S b) (hs : ∀ k, blkOf s = some k → ¬ S k) : Wr w' b s bs := ⟨h.blk.chg hc hb, h.own.chg hc hs, h.ne⟩
theorem Wr.nil {w w' : World} {b : Nat} {s : Slc} {bs : List UInt8} (h : Wr w b s bs) (hc : Chg Nil w w') : Wr w' b s bs := h.chg hc (fun h => h) fun _ _ h => h
theorem Wr.cell {w : World} {b : Nat} {s : Slc} {bs : List UInt8} (h : Wr w b s bs) : w.cell? ⟨b, 0, none⟩ = some (.slice s.a s.l s.c) := by rw [h.blk.cell]; rfl
theorem wr_app {w : World} {b : Nat} {s x : Slc} {bs xs : List UInt8} {K : World → Prop} (h : Wr w b s bs) (hx : Rd w x (U8 xs)) (hxn : x.a = none → x.l = 0 ∧ x.c = 0) (hl : bs.length + xs.length ≤ 140737488355328)
    (hK : ∀ s' w', Wr w' b s' (bs ++ xs) → WSt b s s' w w' → K w') :
    apP Tryz.prog #[23, 23] 23 [.slice s.a s.l s.c, .slice x.a x.l x.c] w fun s6 w5 => nnP (some (⟨b, 0, none⟩ : Addr)) fun a7 => stP a7 (.slice s6.a s6.l s6.c) w5 fun w8 => K w8 := by
  refine apP_rd TU8 h.own hx hxn (U8_one _) (by simpa using hl) (by simpa using hl) fun s1 w1 ho hl1 hg _ => ?_
  rw [nnP_some]
  have hb1 : Blk w1 b #[.slice s.a s.l s.c] 119 := h.blk.chg hg.chg fun he => h.ne he.symm
  have hbl : b < w.heap.size := h.blk.lt
  have hne1 : blkOf s1 ≠ some b := fun he => by
    rcases hg.blk b he with h1 | h1
    · exact h.ne h1
    · omega
  refine stP_intro hb1 (by simp) fun w2 hc2 hb2 hs2 => ?_
  refine hK s1 w2 ⟨by simpa using hb2, ?_, hne1⟩ (WSt.gr hg hc2)
  rw [U8_append]
  exact ho.chg hc2 fun k hk he => by subst he; exact hne1 hk
theorem wr_one {w : World} {b : Nat} {s : Slc} {bs : List UInt8} {c : UInt8} {K : World → Prop} (h : Wr w b s bs) (hl : bs.length + 1 ≤ 140737488355328)
    (hK : ∀ s' w', Wr w' b s' (bs ++ [c]) → WSt b s s' w w' → K w') :
    newP #[.int .u8 (c.toNat : Int)] 5 w fun a3 w4 => apP Tryz.prog #[23, 23] 23 [.slice s.a s.l s.c, .slice (some a3) 1 1] w4 fun s6 w5 => nnP (some (⟨b, 0, none⟩ : Addr)) fun a7 => stP a7 (.slice s6.a s6.l s6.c) w5 fun w8 => K w8 := by
  refine newP_intro fun w1 hc1 hb1 hs1 => ?_
  have hr : Rd w1 ⟨some ⟨w.heap.size, 0, none⟩, 1, 1⟩ (U8 [c]) := by
    have := hb1.rd (o := 0) (l := 1) (c := 1) (by simp) (by omega)
    simpa [U8] using this
  exact wr_app (x := ⟨some ⟨w.heap.size, 0, none⟩, 1, 1⟩) (h.nil hc1) hr (fun h => by cases h) hl fun s' w' hw hst => hK s' w' hw (hst.after hc1)
theorem new_ok {w : World} {K : Option Addr → World → Prop} (hK : ∀ w', Wr w' w.heap.size ⟨none, 0, 0⟩ [] → Chg Nil w w' → w'.heap.size = w.heap.size + 1 → K (some ⟨w.heap.size, 0, none⟩) w') : c_codec_New w K := by
  refine sim_codec_New ?_
  unfold sh_codec_New
  exact newP_intro fun w1 hc1 hb1 hs1 => hK w1 ⟨hb1, Own.nil _ _ _, fun h => by cases h⟩ hc1 hs1
theorem wuint_ok {w : World} {b : Nat} {s : Slc} {bs : List UInt8} {n : Nat} {K : World → Prop} (h : Wr w b s bs) (hn : n < 18446744073709551616) (hl : bs.length + 10 ≤ 140737488355328) (hK : ∀ s' w', Wr w' b s' (bs ++ encU n) → WSt b s s' w w' → K w') :
    c_codec_Writer_Uint (some ⟨b, 0, none⟩) (n : Int) w K := by
  refine sim_codec_Writer_Uint ?_
  unfold sh_codec_Writer_Uint
  have hten := encU_ten n hn
  refine loopP_inv (fun st w1 => ∃ (m : Nat) (pre : List UInt8) (s1 : Slc), st.1 = (m : Int) ∧ pre ++ encU m = encU n ∧ Wr w1 b s1 (bs ++ pre) ∧ WSt b s s1 w w1) (fun st _ => st.1.toNat) ⟨n, [], s, rfl, rfl, by simpa using h, WSt.refl _ _ _⟩ ?_
  rintro ⟨m0, u⟩ w1 next ⟨m, pre, s1, rfl, hpre, hw1, hst1⟩ hnext
  simp only
  have hlen := congrArg List.length hpre
  rw [List.length_append] at hlen
  have hp1 := encU_pos m
  have hlp : (bs ++ pre).length + 1 ≤ 140737488355328 := by rw [List.length_append]; omega
  refine iteB_intro (fun h => ?_) (fun h => ?_)
  · have hm : ¬ m < 128 := by simp at h; omega
    rw [nnP_some]
    refine ldS_of hw1.cell ?_
    rw [bOr_u8_128]
    refine wr_one hw1 hlp fun s2 w2 hw2 hst2 => ?_
    refine ⟨by omega, ?_⟩
    have e7 : min (Int.toNat 7) (IntKind.bits .u64) = 7 := rfl
    rw [e7, fdiv_pow]
    refine hnext _ _ ⟨m / 2 ^ 7, pre ++ [UInt8.ofNat (m % 128 + 128)], s2, rfl, ?_, by simpa using hw2, hst1.trans hst2⟩ (by simp; omega)
    rw [← hpre, encU_high hm]
    simp
  · have hm : m < 128 := by simp at h; omega
    rw [nnP_some]
    refine ldS_of hw1.cell ?_
    rw [wrap_u8_nat]
    refine wr_one hw1 hlp fun s2 w2 hw2 hst2 => ?_
    refine hK s2 w2 ?_ (hst1.trans hst2)
    rw [← hpre, encU_low hm, ← List.append_assoc]
    exact hw2
theorem zig_bits {n : Int} (h : -9223372036854775808 ≤ n ∧ n ≤ 9223372036854775807) : bXor .u64 (IntKind.u64.wrap ((IntKind.u64.wrap n) * 2 ^ (min (Int.toNat 1) (IntKind.bits .u64)))) (IntKind.u64.wrap (Int.fdiv n (2 ^ (min (Int.toNat 63) (IntKind.bits .i64))))) = (zig n : Int) := by
  have e1 : min (Int.toNat 1) (IntKind.bits .u64) = 1 := rfl
  have e63 : min (Int.toNat 63) (IntKind.bits .i64) = 63 := rfl
  rw [e1, e63]
  have hz := zig_lt h
  by_cases h0 : 0 ≤ n
  · have hf : Int.fdiv n (2 ^ 63) = 0 := by
      rw [Int.fdiv_eq_ediv_of_nonneg _ (by omega)]
      exact Int.ediv_eq_zero_of_lt h0 (by omega)
    rw [hf, wrap_u64 (x := n) (by omega), wrap_u64 (x := n * 2 ^ 1) (by omega), wrap_u64 (x := 0) (by omega)]
    obtain ⟨m, rfl⟩ : ∃ m : Nat, n = (m : Int) := ⟨n.toNat, by omega⟩
    have h2 : ((m : Int) * 2 ^ 1) = ((m * 2 : Nat) : Int) := by omega
    have hzm : zig (m : Int) = m * 2 := by unfold zig; rw [if_pos (by omega)]; omega
    rw [h2, hzm]
    show IntKind.u64.wrap (((BitVec.ofInt 64 ((m * 2 : Nat) : Int) ^^^ BitVec.ofInt 64 0).toNat : Nat) : Int) = _
    have h3 : BitVec.ofInt 64 ((m * 2 : Nat) : Int) = BitVec.ofNat 64 (m * 2) := by rw [BitVec.ofInt_natCast]
    rw [h3, show BitVec.ofInt 64 0 = 0#64 from rfl, BitVec.xor_zero, BitVec.toNat_ofNat, Nat.mod_eq_of_lt (by omega), wrap_u64 (by omega)]
  · have hf : Int.fdiv n (2 ^ 63) = -1 := by
      rw [Int.fdiv_eq_ediv_of_nonneg _ (by omega)]
      omega
    have hw1 : IntKind.u64.wrap n = n + 18446744073709551616 := by simp [IntKind.wrap, IntKind.signed, IntKind.bits]; omega
    have hw2 : IntKind.u64.wrap ((n + 18446744073709551616) * 2 ^ 1) = 2 * n + 18446744073709551616 := by simp [IntKind.wrap, IntKind.signed, IntKind.bits]; omega
    have hw3 : IntKind.u64.wrap (-1) = 18446744073709551615 := by decide
    rw [hf, hw1, hw2, hw3]
    obtain ⟨m, hm⟩ : ∃ m : Nat, 2 * n + 18446744073709551616 = (m : Int) := ⟨(2 * n + 18446744073709551616).toNat, by omega⟩
    have hzm : zig n = 18446744073709551615 - m := by unfold zig; rw [if_neg h0]; omega
    rw [hm, hzm]
    show IntKind.u64.wrap (((BitVec.ofInt 64 (m : Int) ^^^ BitVec.ofInt 64 18446744073709551615).toNat : Nat) : Int) = _
    have h3 : BitVec.ofInt 64 (m : Int) = BitVec.ofNat 64 m := by rw [BitVec.ofInt_natCast]
    have h4 : BitVec.ofInt 64 18446744073709551615 = BitVec.allOnes 64 := by decide
    rw [h3, h4, BitVec.xor_allOnes, BitVec.toNat_not, BitVec.toNat_ofNat, Nat.mod_eq_of_lt (by omega), wrap_u64 (by omega)]
theorem wint_ok {w : World} {b : Nat} {s : Slc} {bs : List UInt8} {n : Int} {K : World → Prop} (h : Wr w b s bs) (hn : -9223372036854775808 ≤ n ∧ n ≤ 9223372036854775807) (hl : bs.length + 10 ≤ 140737488355328) (hK : ∀ s' w', Wr w' b s' (bs ++ encU (zig n)) → WSt b s s' w w' → K w') :
    c_codec_Writer_Int (some ⟨b, 0, none⟩) n w K := by
  refine sim_codec_Writer_Int ?_
  unfold sh_codec_Writer_Int
  refine ⟨by omega, by omega, ?_⟩
  rw [zig_bits hn]
  exact wuint_ok h (zig_lt hn) hl hK
theorem wraw_ok {w : World} {b : Nat} {s x : Slc} {bs xs : List UInt8} {K : World → Prop} (h : Wr w b s bs) (hx : Rd w x (U8 xs)) (hxn : x.a = none → x.l = 0 ∧ x.c = 0) (hl : bs.length + xs.length ≤ 140737488355328)
    (hK : ∀ s' w', Wr w' b s' (bs ++ xs) → WSt b s s' w w' → K w') : c_codec_Writer_Raw (some ⟨b, 0, none⟩) x w K := by
  refine sim_codec_Writer_Raw ?_
  unfold sh_codec_Writer_Raw
  rw [nnP_some]
  exact ldS_of h.cell (wr_app h hx hxn hl hK)
theorem wout_ok {w : World} {b : Nat} {s : Slc} {bs : List UInt8} {K : Slc → World → Prop} (h : Wr w b s bs) (hl : bs.length ≤ 140737488351232)
    (hK : ∀ s' w', Own w' 5 1 s' (U8 bs) → Chg Nil w w' → NewS w.heap.size s' → s'.l = bs.length → (s'.a = none → s'.l = 0) → K s' w') : c_codec_Writer_Out (some ⟨b, 0, none⟩) w K := by
  refine sim_codec_Writer_Out ?_
  unfold sh_codec_Writer_Out
  rw [nnP_some]
  exact ldS_of h.cell (clone_ok h.own.rd hl fun s' w' h1 h2 h3 h4 h5 _ _ => hK s' w' h1 h2 h3 h4 h5)
end Go.Proofs.YtlnhecbgjjglfaaGreat
