/- Wr: what a Writer's calls come to. -/
import Derived.Test.YtlnhecbgjjglfaaDoorBy
import Derived.Test.YtlnhecbgjjglfaaDoorNum
set_option linter.unusedVariables false
set_option linter.unusedSimpArgs false
namespace Go.Pl
open Go Go.Sh Go.RowKit
theorem wrap_u8_nat (n : Nat) : IntKind.u8.wrap (n : Int) = ((UInt8.ofNat n).toNat : Int) := by
  rw [UInt8.toNat_ofNat']
  simp [IntKind.wrap, IntKind.signed, IntKind.bits]
theorem bOr_u64 {x y : Nat} (hx : x < 18446744073709551616) (hy : y < 18446744073709551616) : bOr .u64 (x : Int) (y : Int) = ((x ||| y : Nat) : Int) := by
  have h1 : BitVec.ofInt 64 (x : Int) = BitVec.ofNat 64 x := by simp
  have h2 : BitVec.ofInt 64 (y : Int) = BitVec.ofNat 64 y := by simp
  show IntKind.u64.wrap (((BitVec.ofInt 64 (x : Int) ||| BitVec.ofInt 64 (y : Int)).toNat : Nat) : Int) = _
  rw [h1, h2, BitVec.toNat_or, BitVec.toNat_ofNat, BitVec.toNat_ofNat, Nat.mod_eq_of_lt (by omega), Nat.mod_eq_of_lt (by omega)]
  have : x ||| y < 2 ^ 64 := Nat.or_lt_two_pow (by omega) (by omega)
  rw [wrap_u64 (by omega)]
theorem bOr_u8_128 (n : Nat) : bOr .u8 (IntKind.u8.wrap (n : Int)) 128 = ((UInt8.ofNat (n % 128 + 128)).toNat : Int) := by
  have hw : IntKind.u8.wrap (n : Int) = ((n % 256 : Nat) : Int) := by simp [IntKind.wrap, IntKind.signed, IntKind.bits]
  have h : ∀ m : Fin 256, bOr .u8 (m.val : Int) 128 = ((m.val % 128 + 128 : Nat) : Int) := by decide +kernel
  rw [hw, h ⟨n % 256, Nat.mod_lt _ (by omega)⟩, UInt8.toNat_ofNat']
  congr 1
  simp only
  omega
theorem fdiv_pow (n k : Nat) : Int.fdiv (n : Int) (2 ^ k) = ((n / 2 ^ k : Nat) : Int) := by
  rw [Int.fdiv_eq_ediv_of_nonneg _ (Int.le_of_lt (Int.pow_pos (by omega)))]
  simp
/-- Only a block and a slice's block may have changed; the slice's new block is the old one or a new one. -/
structure WSt (b : Nat) (s s' : Slc) (w w' : World) : Prop where
  chg : Chg (fun k => k = b ∨ some k = blkOf s) w w'
  blk : ∀ k, blkOf s' = some k → blkOf s = some k ∨ w.heap.size ≤ k
theorem WSt.refl (b : Nat) (s : Slc) (w : World) : WSt b s s w w := ⟨Chg.refl _ _, fun k h => .inl h⟩
theorem WSt.trans {b : Nat} {s s1 s2 : Slc} {w w1 w2 : World} (h : WSt b s s1 w w1) (k : WSt b s1 s2 w1 w2) : WSt b s s2 w w2 :=
  ⟨h.chg.step k.chg fun i hi he => by
    rcases he with he | he
    · exact .inl he
    · rcases h.blk i he.symm with h1 | h1
      · exact .inr h1.symm
      · omega,
   fun b hb => by
    rcases k.blk b hb with h1 | h1
    · exact h.blk b h1
    · exact .inr (Nat.le_trans h.chg.size h1)⟩
theorem WSt.after {b : Nat} {s s' : Slc} {w w1 w2 : World} (h : Chg Nil w w1) (k : WSt b s s' w1 w2) : WSt b s s' w w2 :=
  ⟨(h.mono fun _ _ h => h.elim).step k.chg fun i hi he => he, fun b hb => (k.blk b hb).imp id fun h1 => Nat.le_trans h.size h1⟩
theorem WSt.then {b : Nat} {s s' : Slc} {w w1 w2 : World} (h : WSt b s s' w w1) (k : Chg Nil w1 w2) : WSt b s s' w w2 := ⟨h.chg.step k fun i hi he => he.elim, h.blk⟩
theorem WSt.gr {b : Nat} {s s' : Slc} {w w' w'' : World} (h : Gr s w s' w') (k : Chg (fun k => k = b) w' w'') : WSt b s s' w w'' :=
  ⟨(h.chg.mono fun i _ h => Or.inr h).step k fun i hi he => .inl he, h.blk⟩
/-- All that may have changed lies in memory that is new since a first world. -/
theorem WSt.nil {b : Nat} {s s' : Slc} {w0 w w' : World} (hc : Chg Nil w0 w) (hb : w0.heap.size ≤ b) (hs : NewS w0.heap.size s) (g : WSt b s s' w w') : Chg Nil w0 w' :=
  hc.step g.chg fun i hi he => by
    rcases he with he | he
    · omega
    · have := hs i he.symm; omega
theorem WSt.new {b : Nat} {s s' : Slc} {n : Nat} {w w' : World} (hs : NewS n s) (g : WSt b s s' w w') (hn : n ≤ w.heap.size) : NewS n s' := fun k hk => (g.blk k hk).elim (hs k) fun h => by omega
end Go.Pl
namespace Go.Proofs.YtlnhecbgjjglfaaDoor
open Go Go.Sh Go.Pl Go.RowKit Go.Num
theorem zig_bits {n : Int} (h : -9223372036854775808 ≤ n ∧ n ≤ 9223372036854775807) : bXor .u64 (IntKind.u64.wrap ((IntKind.u64.wrap n) * 2 ^ (min (Int.toNat 1) (IntKind.bits .u64)))) (IntKind.u64.wrap (Int.fdiv n (2 ^ (min (Int.toNat 63) (IntKind.bits .i64))))) = (zig n : Int) := by
  have e1 : min (Int.toNat 1) (IntKind.bits .u64) = 1 := rfl
  have e63 : min (Int.toNat 63) (IntKind.bits .i64) = 63 := rfl
  rw [e1, e63]
  have hz := zig_lt h
  by_cases h0 : 0 ≤ n
  · have hf : Int.fdiv n (2 ^ 63) = 0 := by
      rw [Int.fdiv_eq_ediv_of_nonneg _ (by omega)]
      exact Int.ediv_eq_zero_of_lt h0 (by omega)
    rw [hf, wrap_u64 (x := n) (by omega), wrap_u64 (x := n * 2 ^ 1) (by omega), wrap_u64 (x := 0) (by omega)]
    obtain ⟨m, rfl⟩ : ∃ m : Nat, n = (m : Int) := ⟨n.toNat, by omega⟩
    have h2 : ((m : Int) * 2 ^ 1) = ((m * 2 : Nat) : Int) := by omega
    have hzm : zig (m : Int) = m * 2 := by unfold zig; rw [if_pos (by omega)]; omega
    rw [h2, hzm]
    show IntKind.u64.wrap (((BitVec.ofInt 64 ((m * 2 : Nat) : Int) ^^^ BitVec.ofInt 64 0).toNat : Nat) : Int) = _
    have h3 : BitVec.ofInt 64 ((m * 2 : Nat) : Int) = BitVec.ofNat 64 (m * 2) := by rw [BitVec.ofInt_natCast]
    rw [h3, show BitVec.ofInt 64 0 = 0#64 from rfl, BitVec.xor_zero, BitVec.toNat_ofNat, Nat.mod_eq_of_lt (by omega), wrap_u64 (by omega)]
  · have hf : Int.fdiv n (2 ^ 63) = -1 := by
      rw [Int.fdiv_eq_ediv_of_nonneg _ (by omega)]
      omega
    have hw1 : IntKind.u64.wrap n = n + 18446744073709551616 := by simp [IntKind.wrap, IntKind.signed, IntKind.bits]; omega
    have hw2 : IntKind.u64.wrap ((n + 18446744073709551616) * 2 ^ 1) = 2 * n + 18446744073709551616 := by simp [IntKind.wrap, IntKind.signed, IntKind.bits]; omega
    have hw3 : IntKind.u64.wrap (-1) = 18446744073709551615 := by decide
    rw [hf, hw1, hw2, hw3]
    obtain ⟨m, hm⟩ : ∃ m : Nat, 2 * n + 18446744073709551616 = (m : Int) := ⟨(2 * n + 18446744073709551616).toNat, by omega⟩
    have hzm : zig n = 18446744073709551615 - m := by unfold zig; rw [if_neg h0]; omega
    rw [hm, hzm]
    show IntKind.u64.wrap (((BitVec.ofInt 64 (m : Int) ^^^ BitVec.ofInt 64 18446744073709551615).toNat : Nat) : Int) = _
    have h3 : BitVec.ofInt 64 (m : Int) = BitVec.ofNat 64 m := by rw [BitVec.ofInt_natCast]
    have h4 : BitVec.ofInt 64 18446744073709551615 = BitVec.allOnes 64 := by decide
    rw [h3, h4, BitVec.xor_allOnes, BitVec.toNat_not, BitVec.toNat_ofNat, Nat.mod_eq_of_lt (by omega), wrap_u64 (by omega)]
end Go.Proofs.YtlnhecbgjjglfaaDoor
