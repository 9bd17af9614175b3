/- Spell: the spelling of an instruction is a name just if it is that name's instruction. -/
import Derived.Test.YthgkehldimldgaaDoorNames
set_option linter.unusedVariables false
set_option linter.unusedSimpArgs false
namespace Go.Proofs.YthgkehldimldgaaDoor
open Go Go.Sh Go.Pl Go.RowKit Go.Names
theorem nm_eq : ∀ i n : Fin 37, seq (nm i.val) (nm n.val) = decide (i = n) := by decide +kernel
theorem nm_no : ∀ i : Fin 37, seq (nm i.val) (ByteArray.mk #[]) = false := by decide +kernel
theorem spell_in {op : Int} (h0 : 0 ≤ op) (h1 : op < 37) : spell op = nm op.toNat := by unfold spell; rw [if_neg (by omega), if_neg (by omega)]
theorem spellEq {op : Int} (h0 : 0 ≤ op) (h1 : op < 37) (n : Fin 37) : ((spell op).toList == (nm n.val).toList) = (op == ((n.val : Nat) : Int)) := by
  rw [seq_eq, spell_in h0 h1]
  have := nm_eq ⟨op.toNat, by omega⟩ n
  rw [this]
  rw [Bool.eq_iff_iff, decide_eq_true_eq, beq_iff_eq, Fin.ext_iff]
  simp only []
  omega
theorem sEn {op : Int} (h0 : 0 ≤ op) (h1 : op < 37) : ((spell op).toList == (ByteArray.mk #[]).toList) = false := by
  rw [seq_eq, spell_in h0 h1]
  exact nm_no ⟨op.toNat, by omega⟩
theorem sE0 {op : Int} (h0 : 0 ≤ op) (h1 : op < 37) : ((spell op).toList == (ByteArray.mk #[115, 116, 111, 112]).toList) = (op == 0) := spellEq h0 h1 0
theorem sE1 {op : Int} (h0 : 0 ≤ op) (h1 : op < 37) : ((spell op).toList == (ByteArray.mk #[112, 117, 115, 104]).toList) = (op == 1) := spellEq h0 h1 1
theorem sE2 {op : Int} (h0 : 0 ≤ op) (h1 : op < 37) : ((spell op).toList == (ByteArray.mk #[112, 111, 112]).toList) = (op == 2) := spellEq h0 h1 2
theorem sE3 {op : Int} (h0 : 0 ≤ op) (h1 : op < 37) : ((spell op).toList == (ByteArray.mk #[100, 117, 112]).toList) = (op == 3) := spellEq h0 h1 3
theorem sE4 {op : Int} (h0 : 0 ≤ op) (h1 : op < 37) : ((spell op).toList == (ByteArray.mk #[108, 111, 97, 100]).toList) = (op == 4) := spellEq h0 h1 4
theorem sE5 {op : Int} (h0 : 0 ≤ op) (h1 : op < 37) : ((spell op).toList == (ByteArray.mk #[115, 97, 118, 101]).toList) = (op == 5) := spellEq h0 h1 5
theorem sE6 {op : Int} (h0 : 0 ≤ op) (h1 : op < 37) : ((spell op).toList == (ByteArray.mk #[97, 114, 103]).toList) = (op == 6) := spellEq h0 h1 6
theorem sE7 {op : Int} (h0 : 0 ≤ op) (h1 : op < 37) : ((spell op).toList == (ByteArray.mk #[103, 101, 116]).toList) = (op == 7) := spellEq h0 h1 7
theorem sE8 {op : Int} (h0 : 0 ≤ op) (h1 : op < 37) : ((spell op).toList == (ByteArray.mk #[104, 97, 115]).toList) = (op == 8) := spellEq h0 h1 8
theorem sE9 {op : Int} (h0 : 0 ≤ op) (h1 : op < 37) : ((spell op).toList == (ByteArray.mk #[103, 101, 116, 120]).toList) = (op == 9) := spellEq h0 h1 9
theorem sE10 {op : Int} (h0 : 0 ≤ op) (h1 : op < 37) : ((spell op).toList == (ByteArray.mk #[97, 100, 100]).toList) = (op == 10) := spellEq h0 h1 10
theorem sE11 {op : Int} (h0 : 0 ≤ op) (h1 : op < 37) : ((spell op).toList == (ByteArray.mk #[115, 117, 98]).toList) = (op == 11) := spellEq h0 h1 11
theorem sE12 {op : Int} (h0 : 0 ≤ op) (h1 : op < 37) : ((spell op).toList == (ByteArray.mk #[109, 117, 108]).toList) = (op == 12) := spellEq h0 h1 12
theorem sE13 {op : Int} (h0 : 0 ≤ op) (h1 : op < 37) : ((spell op).toList == (ByteArray.mk #[100, 105, 118]).toList) = (op == 13) := spellEq h0 h1 13
theorem sE14 {op : Int} (h0 : 0 ≤ op) (h1 : op < 37) : ((spell op).toList == (ByteArray.mk #[109, 111, 100]).toList) = (op == 14) := spellEq h0 h1 14
theorem sE15 {op : Int} (h0 : 0 ≤ op) (h1 : op < 37) : ((spell op).toList == (ByteArray.mk #[97, 110, 100]).toList) = (op == 15) := spellEq h0 h1 15
theorem sE16 {op : Int} (h0 : 0 ≤ op) (h1 : op < 37) : ((spell op).toList == (ByteArray.mk #[111, 114]).toList) = (op == 16) := spellEq h0 h1 16
theorem sE17 {op : Int} (h0 : 0 ≤ op) (h1 : op < 37) : ((spell op).toList == (ByteArray.mk #[120, 111, 114]).toList) = (op == 17) := spellEq h0 h1 17
theorem sE18 {op : Int} (h0 : 0 ≤ op) (h1 : op < 37) : ((spell op).toList == (ByteArray.mk #[115, 104, 108]).toList) = (op == 18) := spellEq h0 h1 18
theorem sE19 {op : Int} (h0 : 0 ≤ op) (h1 : op < 37) : ((spell op).toList == (ByteArray.mk #[115, 104, 114]).toList) = (op == 19) := spellEq h0 h1 19
theorem sE20 {op : Int} (h0 : 0 ≤ op) (h1 : op < 37) : ((spell op).toList == (ByteArray.mk #[110, 101, 103]).toList) = (op == 20) := spellEq h0 h1 20
theorem sE21 {op : Int} (h0 : 0 ≤ op) (h1 : op < 37) : ((spell op).toList == (ByteArray.mk #[110, 111, 116]).toList) = (op == 21) := spellEq h0 h1 21
theorem sE22 {op : Int} (h0 : 0 ≤ op) (h1 : op < 37) : ((spell op).toList == (ByteArray.mk #[101, 113]).toList) = (op == 22) := spellEq h0 h1 22
theorem sE23 {op : Int} (h0 : 0 ≤ op) (h1 : op < 37) : ((spell op).toList == (ByteArray.mk #[110, 101]).toList) = (op == 23) := spellEq h0 h1 23
theorem sE24 {op : Int} (h0 : 0 ≤ op) (h1 : op < 37) : ((spell op).toList == (ByteArray.mk #[108, 116]).toList) = (op == 24) := spellEq h0 h1 24
theorem sE25 {op : Int} (h0 : 0 ≤ op) (h1 : op < 37) : ((spell op).toList == (ByteArray.mk #[108, 101]).toList) = (op == 25) := spellEq h0 h1 25
theorem sE26 {op : Int} (h0 : 0 ≤ op) (h1 : op < 37) : ((spell op).toList == (ByteArray.mk #[103, 116]).toList) = (op == 26) := spellEq h0 h1 26
theorem sE27 {op : Int} (h0 : 0 ≤ op) (h1 : op < 37) : ((spell op).toList == (ByteArray.mk #[103, 101]).toList) = (op == 27) := spellEq h0 h1 27
theorem sE28 {op : Int} (h0 : 0 ≤ op) (h1 : op < 37) : ((spell op).toList == (ByteArray.mk #[109, 105, 110]).toList) = (op == 28) := spellEq h0 h1 28
theorem sE29 {op : Int} (h0 : 0 ≤ op) (h1 : op < 37) : ((spell op).toList == (ByteArray.mk #[109, 97, 120]).toList) = (op == 29) := spellEq h0 h1 29
theorem sE30 {op : Int} (h0 : 0 ≤ op) (h1 : op < 37) : ((spell op).toList == (ByteArray.mk #[106, 117, 109, 112]).toList) = (op == 30) := spellEq h0 h1 30
theorem sE31 {op : Int} (h0 : 0 ≤ op) (h1 : op < 37) : ((spell op).toList == (ByteArray.mk #[122, 101, 114, 111]).toList) = (op == 31) := spellEq h0 h1 31
theorem sE32 {op : Int} (h0 : 0 ≤ op) (h1 : op < 37) : ((spell op).toList == (ByteArray.mk #[112, 117, 116]).toList) = (op == 32) := spellEq h0 h1 32
theorem sE33 {op : Int} (h0 : 0 ≤ op) (h1 : op < 37) : ((spell op).toList == (ByteArray.mk #[100, 101, 108]).toList) = (op == 33) := spellEq h0 h1 33
theorem sE34 {op : Int} (h0 : 0 ≤ op) (h1 : op < 37) : ((spell op).toList == (ByteArray.mk #[112, 117, 116, 120]).toList) = (op == 34) := spellEq h0 h1 34
theorem sE35 {op : Int} (h0 : 0 ≤ op) (h1 : op < 37) : ((spell op).toList == (ByteArray.mk #[111, 117, 116]).toList) = (op == 35) := spellEq h0 h1 35
theorem sE36 {op : Int} (h0 : 0 ≤ op) (h1 : op < 37) : ((spell op).toList == (ByteArray.mk #[97, 98, 111, 114, 116]).toList) = (op == 36) := spellEq h0 h1 36
theorem op_cases {op : Int} (h0 : 0 ≤ op) (h1 : op < 37) : op = 0 ∨ op = 1 ∨ op = 2 ∨ op = 3 ∨ op = 4 ∨ op = 5 ∨ op = 6 ∨ op = 7 ∨ op = 8 ∨ op = 9 ∨ op = 10 ∨ op = 11 ∨ op = 12 ∨ op = 13 ∨ op = 14 ∨ op = 15 ∨ op = 16 ∨ op = 17 ∨ op = 18 ∨ op = 19 ∨ op = 20 ∨ op = 21 ∨ op = 22 ∨ op = 23 ∨ op = 24 ∨ op = 25 ∨ op = 26 ∨ op = 27 ∨ op = 28 ∨ op = 29 ∨ op = 30 ∨ op = 31 ∨ op = 32 ∨ op = 33 ∨ op = 34 ∨ op = 35 ∨ op = 36 := by omega
end Go.Proofs.YthgkehldimldgaaDoor
