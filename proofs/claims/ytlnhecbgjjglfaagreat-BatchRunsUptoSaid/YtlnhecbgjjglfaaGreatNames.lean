/- Names: the instructions' names: what Spell, Op and Wants come to. -/
import Derived.Test.YtlnhecbgjjglfaaGreatGen
import Derived.Test.YtlnhecbgjjglfaaGreatPl
set_option linter.unusedVariables false
set_option linter.unusedSimpArgs false
namespace Go.Pl
open Go Go.Sh Go.RowKit
/-- A block that is new since a first world. -/
def At (w0 w : World) (b : Nat) (cur : Array Value) (t : TypeId) (n : Nat) : Prop := Blk w b cur t ∧ Chg Nil w0 w ∧ w0.heap.size ≤ b ∧ cur.size = n
theorem At.eq {w0 w : World} {b n : Nat} {cur cur' : Array Value} {t : TypeId} (h : At w0 w b cur t n) (e : cur = cur') : At w0 w b cur' t n := e ▸ h
theorem stP_at {w0 w : World} {b n k : Nat} {cur : Array Value} {t : TypeId} {v : Value} {K : World → Prop} (h : At w0 w b cur t n) (hk : k < n) (hK : ∀ w', At w0 w' b (cur.setIfInBounds k v) t n → K w') : stP ((⟨b, 0, none⟩ : Addr).add k) v w K := by
  rw [add_mk, Nat.zero_add]
  refine stP_intro h.1 (by rw [h.2.2.2]; exact hk) fun w' hc hb hs => hK w' ⟨hb, h.2.1.step hc fun i hi he => ?_, h.2.2.1, by simpa using h.2.2.2⟩
  have := h.2.2.1
  omega
theorem ldStr_at {w0 w : World} {b n k : Nat} {cur : Array Value} {t : TypeId} {s : ByteArray} {K : ByteArray → Prop} (h : At w0 w b cur t n) (hc : cur[k]? = some (.string s)) (hK : K s) : ldStr ((⟨b, 0, none⟩ : Addr).add k) w K := by
  rw [add_mk, Nat.zero_add]
  exact ldStr_of (by rw [h.1.cell]; exact hc) hK
theorem At.new {w w' : World} {n : Nat} {cur : Array Value} {t : TypeId} (hc : Chg Nil w w') (hb : Blk w' w.heap.size cur t) (hn : cur.size = n) : At w w' w.heap.size cur t n := ⟨hb, hc, Nat.le_refl _, hn⟩
theorem At.base {w w0 w' : World} {b n : Nat} {cur : Array Value} {t : TypeId} (h : At w0 w' b cur t n) (hc : Chg Nil w w0) : Chg Nil w w' := hc.step h.2.1 fun _ _ h => h
end Go.Pl
namespace Go.Names
def namesL : List ByteArray := [ByteArray.mk #[115, 116, 111, 112], ByteArray.mk #[112, 117, 115, 104], ByteArray.mk #[112, 111, 112], ByteArray.mk #[100, 117, 112], ByteArray.mk #[108, 111, 97, 100], ByteArray.mk #[115, 97, 118, 101], ByteArray.mk #[97, 114, 103], ByteArray.mk #[103, 101, 116], ByteArray.mk #[104, 97, 115], ByteArray.mk #[103, 101, 116, 120], ByteArray.mk #[97, 100, 100], ByteArray.mk #[115, 117, 98], ByteArray.mk #[109, 117, 108], ByteArray.mk #[100, 105, 118], ByteArray.mk #[109, 111, 100], ByteArray.mk #[97, 110, 100], ByteArray.mk #[111, 114], ByteArray.mk #[120, 111, 114], ByteArray.mk #[115, 104, 108], ByteArray.mk #[115, 104, 114], ByteArray.mk #[110, 101, 103], ByteArray.mk #[110, 111, 116], ByteArray.mk #[101, 113], ByteArray.mk #[110, 101], ByteArray.mk #[108, 116], ByteArray.mk #[108, 101], ByteArray.mk #[103, 116], ByteArray.mk #[103, 101], ByteArray.mk #[109, 105, 110], ByteArray.mk #[109, 97, 120], ByteArray.mk #[106, 117, 109, 112], ByteArray.mk #[122, 101, 114, 111], ByteArray.mk #[112, 117, 116], ByteArray.mk #[100, 101, 108], ByteArray.mk #[112, 117, 116, 120], ByteArray.mk #[111, 117, 116], ByteArray.mk #[97, 98, 111, 114, 116]]
def nm (i : Nat) : ByteArray := namesL.getD i ByteArray.empty
def namesA : Array Value := (namesL.map Value.string).toArray
theorem namesA_at {i : Nat} (h : i < 37) : namesA[i]? = some (.string (nm i)) := by
  have : ∀ i : Fin 37, namesA[i.val]? = some (.string (nm i.val)) := by
    intro i
    have hi : i.val < namesL.length := i.isLt
    simp [namesA, nm, List.getD, hi]
  exact this ⟨i, h⟩
def seq (a b : ByteArray) : Bool := decide (a.data.toList = b.data.toList)
theorem seq_eq (a b : ByteArray) : (a.toList == b.toList) = seq a b := by
  rw [ByteArray.toList_eq, ByteArray.toList_eq, seq, Bool.eq_iff_iff, beq_iff_eq, decide_eq_true_eq]
theorem seq_refl (a : ByteArray) : seq a a = true := by simp [seq]
def spell (op : Int) : ByteArray := if op < 0 then ByteArray.mk #[] else if op ≥ 37 then ByteArray.mk #[] else nm op.toNat
/-- The number of a name, and whether it is one. -/
def IsOp (name : ByteArray) (r : Int) (ok : Bool) : Prop := (∃ i : Nat, i < 37 ∧ r = (i : Int) ∧ ok = true ∧ seq (nm i) name = true ∧ ∀ j, j < i → seq (nm j) name = false) ∨ (r = 0 ∧ ok = false ∧ ∀ j, j < 37 → seq (nm j) name = false)
theorem IsOp.one {name : ByteArray} {r r' : Int} {ok ok' : Bool} (h : IsOp name r ok) (k : IsOp name r' ok') : r = r' ∧ ok = ok' := by
  rcases h with ⟨i, hi, rfl, rfl, h1, h2⟩ | ⟨rfl, rfl, h2⟩ <;> rcases k with ⟨j, hj, rfl, rfl, k1, k2⟩ | ⟨rfl, rfl, k2⟩
  · rcases Nat.lt_trichotomy i j with h | h | h
    · rw [k2 i h] at h1; cases h1
    · subst h; exact ⟨rfl, rfl⟩
    · rw [h2 j h] at k1; cases k1
  · rw [k2 i hi] at h1; cases h1
  · rw [h2 j hj] at k1; cases k1
  · exact ⟨rfl, rfl⟩
theorem nm_ne {name : ByteArray} (h : seq name (ByteArray.mk #[]) = true) : ∀ j, j < 37 → seq (nm j) name = false := by
  have h0 : name.data.toList = [] := of_decide_eq_true h
  have : ∀ j : Fin 37, decide ((nm j.val).data.toList = []) = false := by decide +kernel
  intro j hj
  unfold seq
  rw [h0]
  exact this ⟨j, hj⟩
def wants (op : Int) : Bool := op == 1 || op == 4 || op == 5 || op == 6 || op == 7 || op == 8 || op == 30 || op == 31 || op == 32 || op == 33
def isB (op : Int) (a b c d : ByteArray) : Bool := !seq (spell op) (ByteArray.mk #[]) && (seq (spell op) a || seq (spell op) b || seq (spell op) c || seq (spell op) d)
def wantsB (op : Int) : Bool :=
  isB op (ByteArray.mk #[112, 117, 115, 104]) (ByteArray.mk #[108, 111, 97, 100]) (ByteArray.mk #[115, 97, 118, 101]) (ByteArray.mk #[97, 114, 103]) ||
  isB op (ByteArray.mk #[103, 101, 116]) (ByteArray.mk #[104, 97, 115]) (ByteArray.mk #[106, 117, 109, 112]) (ByteArray.mk #[122, 101, 114, 111]) ||
  isB op (ByteArray.mk #[112, 117, 116]) (ByteArray.mk #[100, 101, 108]) (ByteArray.mk #[]) (ByteArray.mk #[])
theorem spell_out {op : Int} (h : op < 0 ∨ 37 ≤ op) : spell op = ByteArray.mk #[] := by
  unfold spell
  rcases h with h | h
  · rw [if_pos h]
  · rw [if_neg (by omega), if_pos h]
theorem wants_eq (op : Int) : wantsB op = wants op := by
  by_cases h : op < 0 ∨ 37 ≤ op
  · have h1 : wants op = false := by simp [wants]; omega
    rw [h1]
    have hz : seq (spell op) (ByteArray.mk #[]) = true := by rw [spell_out h]; rfl
    simp [wantsB, isB, hz]
  · have : ∀ i : Fin 37, wantsB (i.val : Int) = wants (i.val : Int) := by decide +kernel
    have h2 := this ⟨op.toNat, by omega⟩
    have h3 : ((op.toNat : Nat) : Int) = op := by omega
    simpa [h3] using h2
end Go.Names
namespace Go.Proofs.YtlnhecbgjjglfaaGreat
open Go Go.Sh Go.Pl Go.RowKit Go.Names
end Go.Proofs.YtlnhecbgjjglfaaGreat
