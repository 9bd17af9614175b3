/- Names: the instructions' names: what Spell, Op and Wants come to. -/
import Derived.Test.YthgkehldimldgaaDoorGen
import Derived.Test.YthgkehldimldgaaDoorPl
set_option linter.unusedVariables false
set_option linter.unusedSimpArgs false
namespace Go.Pl
open Go Go.Sh Go.RowKit
/-- A block that is new since a first world. -/
def At (w0 w : World) (b : Nat) (cur : Array Value) (t : TypeId) (n : Nat) : Prop := Blk w b cur t ∧ Chg Nil w0 w ∧ w0.heap.size ≤ b ∧ cur.size = n
theorem At.eq {w0 w : World} {b n : Nat} {cur cur' : Array Value} {t : TypeId} (h : At w0 w b cur t n) (e : cur = cur') : At w0 w b cur' t n := e ▸ h
theorem stP_at {w0 w : World} {b n k : Nat} {cur : Array Value} {t : TypeId} {v : Value} {K : World → Prop} (h : At w0 w b cur t n) (hk : k < n) (hK : ∀ w', At w0 w' b (cur.setIfInBounds k v) t n → K w') : stP ((⟨b, 0, none⟩ : Addr).add k) v w K := by
  rw [add_mk, Nat.zero_add]
  refine stP_intro h.1 (by rw [h.2.2.2]; exact hk) fun w' hc hb hs => hK w' ⟨hb, h.2.1.step hc fun i hi he => ?_, h.2.2.1, by simpa using h.2.2.2⟩
  have := h.2.2.1
  omega
theorem ldStr_at {w0 w : World} {b n k : Nat} {cur : Array Value} {t : TypeId} {s : ByteArray} {K : ByteArray → Prop} (h : At w0 w b cur t n) (hc : cur[k]? = some (.string s)) (hK : K s) : ldStr ((⟨b, 0, none⟩ : Addr).add k) w K := by
  rw [add_mk, Nat.zero_add]
  exact ldStr_of (by rw [h.1.cell]; exact hc) hK
theorem At.new {w w' : World} {n : Nat} {cur : Array Value} {t : TypeId} (hc : Chg Nil w w') (hb : Blk w' w.heap.size cur t) (hn : cur.size = n) : At w w' w.heap.size cur t n := ⟨hb, hc, Nat.le_refl _, hn⟩
theorem At.base {w w0 w' : World} {b n : Nat} {cur : Array Value} {t : TypeId} (h : At w0 w' b cur t n) (hc : Chg Nil w w0) : Chg Nil w w' := hc.step h.2.1 fun _ _ h => h
end Go.Pl
namespace Go.Names
def namesL : List ByteArray := [ByteArray.mk #[115, 116, 111, 112], ByteArray.mk #[112, 117, 115, 104], ByteArray.mk #[112, 111, 112], ByteArray.mk #[100, 117, 112], ByteArray.mk #[108, 111, 97, 100], ByteArray.mk #[115, 97, 118, 101], ByteArray.mk #[97, 114, 103], ByteArray.mk #[103, 101, 116], ByteArray.mk #[104, 97, 115], ByteArray.mk #[103, 101, 116, 120], ByteArray.mk #[97, 100, 100], ByteArray.mk #[115, 117, 98], ByteArray.mk #[109, 117, 108], ByteArray.mk #[100, 105, 118], ByteArray.mk #[109, 111, 100], ByteArray.mk #[97, 110, 100], ByteArray.mk #[111, 114], ByteArray.mk #[120, 111, 114], ByteArray.mk #[115, 104, 108], ByteArray.mk #[115, 104, 114], ByteArray.mk #[110, 101, 103], ByteArray.mk #[110, 111, 116], ByteArray.mk #[101, 113], ByteArray.mk #[110, 101], ByteArray.mk #[108, 116], ByteArray.mk #[108, 101], ByteArray.mk #[103, 116], ByteArray.mk #[103, 101], ByteArray.mk #[109, 105, 110], ByteArray.mk #[109, 97, 120], ByteArray.mk #[106, 117, 109, 112], ByteArray.mk #[122, 101, 114, 111], ByteArray.mk #[112, 117, 116], ByteArray.mk #[100, 101, 108], ByteArray.mk #[112, 117, 116, 120], ByteArray.mk #[111, 117, 116], ByteArray.mk #[97, 98, 111, 114, 116]]
def nm (i : Nat) : ByteArray := namesL.getD i ByteArray.empty
def namesA : Array Value := (namesL.map Value.string).toArray
theorem namesA_at {i : Nat} (h : i < 37) : namesA[i]? = some (.string (nm i)) := by
  have : ∀ i : Fin 37, namesA[i.val]? = some (.string (nm i.val)) := by
    intro i
    have hi : i.val < namesL.length := i.isLt
    simp [namesA, nm, List.getD, hi]
  exact this ⟨i, h⟩
def seq (a b : ByteArray) : Bool := decide (a.data.toList = b.data.toList)
theorem seq_eq (a b : ByteArray) : (a.toList == b.toList) = seq a b := by
  rw [ByteArray.toList_eq, ByteArray.toList_eq, seq, Bool.eq_iff_iff, beq_iff_eq, decide_eq_true_eq]
theorem seq_refl (a : ByteArray) : seq a a = true := by simp [seq]
def spell (op : Int) : ByteArray := if op < 0 then ByteArray.mk #[] else if op ≥ 37 then ByteArray.mk #[] else nm op.toNat
/-- The number of a name, and whether it is one. -/
def IsOp (name : ByteArray) (r : Int) (ok : Bool) : Prop := (∃ i : Nat, i < 37 ∧ r = (i : Int) ∧ ok = true ∧ seq (nm i) name = true ∧ ∀ j, j < i → seq (nm j) name = false) ∨ (r = 0 ∧ ok = false ∧ ∀ j, j < 37 → seq (nm j) name = false)
theorem IsOp.one {name : ByteArray} {r r' : Int} {ok ok' : Bool} (h : IsOp name r ok) (k : IsOp name r' ok') : r = r' ∧ ok = ok' := by
  rcases h with ⟨i, hi, rfl, rfl, h1, h2⟩ | ⟨rfl, rfl, h2⟩ <;> rcases k with ⟨j, hj, rfl, rfl, k1, k2⟩ | ⟨rfl, rfl, k2⟩
  · rcases Nat.lt_trichotomy i j with h | h | h
    · rw [k2 i h] at h1; cases h1
    · subst h; exact ⟨rfl, rfl⟩
    · rw [h2 j h] at k1; cases k1
  · rw [k2 i hi] at h1; cases h1
  · rw [h2 j hj] at k1; cases k1
  · exact ⟨rfl, rfl⟩
theorem nm_ne {name : ByteArray} (h : seq name (ByteArray.mk #[]) = true) : ∀ j, j < 37 → seq (nm j) name = false := by
  have h0 : name.data.toList = [] := of_decide_eq_true h
  have : ∀ j : Fin 37, decide ((nm j.val).data.toList = []) = false := by decide +kernel
  intro j hj
  unfold seq
  rw [h0]
  exact this ⟨j, hj⟩
def wants (op : Int) : Bool := op == 1 || op == 4 || op == 5 || op == 6 || op == 7 || op == 8 || op == 30 || op == 31 || op == 32 || op == 33
def isB (op : Int) (a b c d : ByteArray) : Bool := !seq (spell op) (ByteArray.mk #[]) && (seq (spell op) a || seq (spell op) b || seq (spell op) c || seq (spell op) d)
def wantsB (op : Int) : Bool :=
  isB op (ByteArray.mk #[112, 117, 115, 104]) (ByteArray.mk #[108, 111, 97, 100]) (ByteArray.mk #[115, 97, 118, 101]) (ByteArray.mk #[97, 114, 103]) ||
  isB op (ByteArray.mk #[103, 101, 116]) (ByteArray.mk #[104, 97, 115]) (ByteArray.mk #[106, 117, 109, 112]) (ByteArray.mk #[122, 101, 114, 111]) ||
  isB op (ByteArray.mk #[112, 117, 116]) (ByteArray.mk #[100, 101, 108]) (ByteArray.mk #[]) (ByteArray.mk #[])
theorem spell_out {op : Int} (h : op < 0 ∨ 37 ≤ op) : spell op = ByteArray.mk #[] := by
  unfold spell
  rcases h with h | h
  · rw [if_pos h]
  · rw [if_neg (by omega), if_pos h]
theorem wants_eq (op : Int) : wantsB op = wants op := by
  by_cases h : op < 0 ∨ 37 ≤ op
  · have h1 : wants op = false := by simp [wants]; omega
    rw [h1]
    have hz : seq (spell op) (ByteArray.mk #[]) = true := by rw [spell_out h]; rfl
    simp [wantsB, isB, hz]
  · have : ∀ i : Fin 37, wantsB (i.val : Int) = wants (i.val : Int) := by decide +kernel
    have h2 := this ⟨op.toNat, by omega⟩
    have h3 : ((op.toNat : Nat) : Int) = op := by omega
    simpa [h3] using h2
end Go.Names
namespace Go.Proofs.YthgkehldimldgaaDoor
open Go Go.Sh Go.Pl Go.RowKit Go.Names
theorem spell_ok {op : Int} {w : World} {K : ByteArray → World → Prop} (hK : ∀ w', Chg Nil w w' → K (spell op) w') : c_lang_Spell op w K := by
  refine sim_lang_Spell ?_
  unfold sh_lang_Spell
  refine newP_intro fun w1 hc1 hb1 _ => ?_
  have hA := At.new (n := 37) hc1 hb1 rfl
  refine stP_at (k := 0) hA (by decide) fun _ hA => ?_
  refine stP_at hA (by decide) fun _ hA => ?_
  refine stP_at hA (by decide) fun _ hA => ?_
  refine stP_at hA (by decide) fun _ hA => ?_
  refine stP_at hA (by decide) fun _ hA => ?_
  refine stP_at hA (by decide) fun _ hA => ?_
  refine stP_at hA (by decide) fun _ hA => ?_
  refine stP_at hA (by decide) fun _ hA => ?_
  refine stP_at hA (by decide) fun _ hA => ?_
  refine stP_at hA (by decide) fun _ hA => ?_
  refine stP_at hA (by decide) fun _ hA => ?_
  refine stP_at hA (by decide) fun _ hA => ?_
  refine stP_at hA (by decide) fun _ hA => ?_
  refine stP_at hA (by decide) fun _ hA => ?_
  refine stP_at hA (by decide) fun _ hA => ?_
  refine stP_at hA (by decide) fun _ hA => ?_
  refine stP_at hA (by decide) fun _ hA => ?_
  refine stP_at hA (by decide) fun _ hA => ?_
  refine stP_at hA (by decide) fun _ hA => ?_
  refine stP_at hA (by decide) fun _ hA => ?_
  refine stP_at hA (by decide) fun _ hA => ?_
  refine stP_at hA (by decide) fun _ hA => ?_
  refine stP_at hA (by decide) fun _ hA => ?_
  refine stP_at hA (by decide) fun _ hA => ?_
  refine stP_at hA (by decide) fun _ hA => ?_
  refine stP_at hA (by decide) fun _ hA => ?_
  refine stP_at hA (by decide) fun _ hA => ?_
  refine stP_at hA (by decide) fun _ hA => ?_
  refine stP_at hA (by decide) fun _ hA => ?_
  refine stP_at hA (by decide) fun _ hA => ?_
  refine stP_at hA (by decide) fun _ hA => ?_
  refine stP_at hA (by decide) fun _ hA => ?_
  refine stP_at hA (by decide) fun _ hA => ?_
  refine stP_at hA (by decide) fun _ hA => ?_
  refine stP_at hA (by decide) fun _ hA => ?_
  refine stP_at hA (by decide) fun _ hA => ?_
  refine stP_at hA (by decide) fun _ hA => ?_
  have hA := hA.eq (cur' := namesA) (by kernel_rfl)
  refine iteB_intro (fun h => ?_) (fun h => ?_)
  · have := hK _ hA.2.1
    rwa [spell_out (.inl (by simpa using h))] at this
  · refine iteB_intro (fun h2 => ?_) (fun h2 => ?_)
    · have := hK _ hA.2.1
      rwa [spell_out (.inr (by simpa using h2))] at this
    · have h0 : 0 ≤ op := by simpa using h
      have h1 : op < 37 := by simpa using h2
      refine ⟨h0, h1, ?_⟩
      rw [Nat.mul_one]
      refine ldStr_at hA (namesA_at (by omega)) ?_
      have := hK _ hA.2.1
      unfold spell at this
      rwa [if_neg (by omega), if_neg (by omega)] at this
theorem names_ok {w : World} {K : ByteArray → ByteArray → ByteArray → ByteArray → ByteArray → ByteArray → ByteArray → ByteArray → ByteArray → ByteArray → ByteArray → ByteArray → ByteArray → ByteArray → ByteArray → ByteArray → ByteArray → ByteArray → ByteArray → ByteArray → ByteArray → ByteArray → ByteArray → ByteArray → ByteArray → ByteArray → ByteArray → ByteArray → ByteArray → ByteArray → ByteArray → ByteArray → ByteArray → ByteArray → ByteArray → ByteArray → ByteArray → World → Prop} (hK : ∀ w', Chg Nil w w' → K (nm 0) (nm 1) (nm 2) (nm 3) (nm 4) (nm 5) (nm 6) (nm 7) (nm 8) (nm 9) (nm 10) (nm 11) (nm 12) (nm 13) (nm 14) (nm 15) (nm 16) (nm 17) (nm 18) (nm 19) (nm 20) (nm 21) (nm 22) (nm 23) (nm 24) (nm 25) (nm 26) (nm 27) (nm 28) (nm 29) (nm 30) (nm 31) (nm 32) (nm 33) (nm 34) (nm 35) (nm 36) w') : c_preluderef03_names w K := by
  refine sim_preluderef03_names ?_
  unfold sh_preluderef03_names
  refine newP_intro fun w1 hc1 hb1 _ => ?_
  have hA := At.new (n := 37) hc1 hb1 rfl
  refine stP_at (k := 0) hA (by decide) fun _ hA => ?_
  refine stP_at hA (by decide) fun _ hA => ?_
  refine stP_at hA (by decide) fun _ hA => ?_
  refine stP_at hA (by decide) fun _ hA => ?_
  refine stP_at hA (by decide) fun _ hA => ?_
  refine stP_at hA (by decide) fun _ hA => ?_
  refine stP_at hA (by decide) fun _ hA => ?_
  refine stP_at hA (by decide) fun _ hA => ?_
  refine stP_at hA (by decide) fun _ hA => ?_
  refine stP_at hA (by decide) fun _ hA => ?_
  refine stP_at hA (by decide) fun _ hA => ?_
  refine stP_at hA (by decide) fun _ hA => ?_
  refine stP_at hA (by decide) fun _ hA => ?_
  refine stP_at hA (by decide) fun _ hA => ?_
  refine stP_at hA (by decide) fun _ hA => ?_
  refine stP_at hA (by decide) fun _ hA => ?_
  refine stP_at hA (by decide) fun _ hA => ?_
  refine stP_at hA (by decide) fun _ hA => ?_
  refine stP_at hA (by decide) fun _ hA => ?_
  refine stP_at hA (by decide) fun _ hA => ?_
  refine stP_at hA (by decide) fun _ hA => ?_
  refine stP_at hA (by decide) fun _ hA => ?_
  refine stP_at hA (by decide) fun _ hA => ?_
  refine stP_at hA (by decide) fun _ hA => ?_
  refine stP_at hA (by decide) fun _ hA => ?_
  refine stP_at hA (by decide) fun _ hA => ?_
  refine stP_at hA (by decide) fun _ hA => ?_
  refine stP_at hA (by decide) fun _ hA => ?_
  refine stP_at hA (by decide) fun _ hA => ?_
  refine stP_at hA (by decide) fun _ hA => ?_
  refine stP_at hA (by decide) fun _ hA => ?_
  refine stP_at hA (by decide) fun _ hA => ?_
  refine stP_at hA (by decide) fun _ hA => ?_
  refine stP_at hA (by decide) fun _ hA => ?_
  refine stP_at hA (by decide) fun _ hA => ?_
  refine stP_at hA (by decide) fun _ hA => ?_
  refine stP_at hA (by decide) fun _ hA => ?_
  have hA := hA.eq (cur' := namesA) (by kernel_rfl)
  refine ldStr_at (k := 0) (s := nm 0) hA rfl ?_
  refine ldStr_at (k := 1) (s := nm 1) hA rfl ?_
  refine ldStr_at (k := 2) (s := nm 2) hA rfl ?_
  refine ldStr_at (k := 3) (s := nm 3) hA rfl ?_
  refine ldStr_at (k := 4) (s := nm 4) hA rfl ?_
  refine ldStr_at (k := 5) (s := nm 5) hA rfl ?_
  refine ldStr_at (k := 6) (s := nm 6) hA rfl ?_
  refine ldStr_at (k := 7) (s := nm 7) hA rfl ?_
  refine ldStr_at (k := 8) (s := nm 8) hA rfl ?_
  refine ldStr_at (k := 9) (s := nm 9) hA rfl ?_
  refine ldStr_at (k := 10) (s := nm 10) hA rfl ?_
  refine ldStr_at (k := 11) (s := nm 11) hA rfl ?_
  refine ldStr_at (k := 12) (s := nm 12) hA rfl ?_
  refine ldStr_at (k := 13) (s := nm 13) hA rfl ?_
  refine ldStr_at (k := 14) (s := nm 14) hA rfl ?_
  refine ldStr_at (k := 15) (s := nm 15) hA rfl ?_
  refine ldStr_at (k := 16) (s := nm 16) hA rfl ?_
  refine ldStr_at (k := 17) (s := nm 17) hA rfl ?_
  refine ldStr_at (k := 18) (s := nm 18) hA rfl ?_
  refine ldStr_at (k := 19) (s := nm 19) hA rfl ?_
  refine ldStr_at (k := 20) (s := nm 20) hA rfl ?_
  refine ldStr_at (k := 21) (s := nm 21) hA rfl ?_
  refine ldStr_at (k := 22) (s := nm 22) hA rfl ?_
  refine ldStr_at (k := 23) (s := nm 23) hA rfl ?_
  refine ldStr_at (k := 24) (s := nm 24) hA rfl ?_
  refine ldStr_at (k := 25) (s := nm 25) hA rfl ?_
  refine ldStr_at (k := 26) (s := nm 26) hA rfl ?_
  refine ldStr_at (k := 27) (s := nm 27) hA rfl ?_
  refine ldStr_at (k := 28) (s := nm 28) hA rfl ?_
  refine ldStr_at (k := 29) (s := nm 29) hA rfl ?_
  refine ldStr_at (k := 30) (s := nm 30) hA rfl ?_
  refine ldStr_at (k := 31) (s := nm 31) hA rfl ?_
  refine ldStr_at (k := 32) (s := nm 32) hA rfl ?_
  refine ldStr_at (k := 33) (s := nm 33) hA rfl ?_
  refine ldStr_at (k := 34) (s := nm 34) hA rfl ?_
  refine ldStr_at (k := 35) (s := nm 35) hA rfl ?_
  refine ldStr_at (k := 36) (s := nm 36) hA rfl ?_
  exact hK _ hA.2.1
theorem refSpell_ok {op : Int} {w : World} {K : ByteArray → World → Prop} (hK : ∀ w', Chg Nil w w' → K (spell op) w') : c_preluderef03_Spell op w K := by
  refine sim_preluderef03_Spell ?_
  unfold sh_preluderef03_Spell
  refine iteB_intro (fun h => ?_) (fun h => ?_)
  · have := hK _ (Chg.refl _ w)
    rwa [spell_out (.inl (by simpa using h))] at this
  refine iteB_intro (fun h2 => ?_) (fun h2 => ?_)
  · have := hK _ (Chg.refl _ w)
    rwa [spell_out (.inr (by simpa using h2))] at this
  have h0 : 0 ≤ op := by simpa using h
  have h1 : op < 37 := by simpa using h2
  refine names_ok fun w0 hc0 => ?_
  refine newP_intro fun w1 hc1 hb1 _ => ?_
  have hA := At.new (n := 37) hc1 hb1 rfl
  refine stP_at (k := 0) hA (by decide) fun _ hA => ?_
  refine stP_at hA (by decide) fun _ hA => ?_
  refine stP_at hA (by decide) fun _ hA => ?_
  refine stP_at hA (by decide) fun _ hA => ?_
  refine stP_at hA (by decide) fun _ hA => ?_
  refine stP_at hA (by decide) fun _ hA => ?_
  refine stP_at hA (by decide) fun _ hA => ?_
  refine stP_at hA (by decide) fun _ hA => ?_
  refine stP_at hA (by decide) fun _ hA => ?_
  refine stP_at hA (by decide) fun _ hA => ?_
  refine stP_at hA (by decide) fun _ hA => ?_
  refine stP_at hA (by decide) fun _ hA => ?_
  refine stP_at hA (by decide) fun _ hA => ?_
  refine stP_at hA (by decide) fun _ hA => ?_
  refine stP_at hA (by decide) fun _ hA => ?_
  refine stP_at hA (by decide) fun _ hA => ?_
  refine stP_at hA (by decide) fun _ hA => ?_
  refine stP_at hA (by decide) fun _ hA => ?_
  refine stP_at hA (by decide) fun _ hA => ?_
  refine stP_at hA (by decide) fun _ hA => ?_
  refine stP_at hA (by decide) fun _ hA => ?_
  refine stP_at hA (by decide) fun _ hA => ?_
  refine stP_at hA (by decide) fun _ hA => ?_
  refine stP_at hA (by decide) fun _ hA => ?_
  refine stP_at hA (by decide) fun _ hA => ?_
  refine stP_at hA (by decide) fun _ hA => ?_
  refine stP_at hA (by decide) fun _ hA => ?_
  refine stP_at hA (by decide) fun _ hA => ?_
  refine stP_at hA (by decide) fun _ hA => ?_
  refine stP_at hA (by decide) fun _ hA => ?_
  refine stP_at hA (by decide) fun _ hA => ?_
  refine stP_at hA (by decide) fun _ hA => ?_
  refine stP_at hA (by decide) fun _ hA => ?_
  refine stP_at hA (by decide) fun _ hA => ?_
  refine stP_at hA (by decide) fun _ hA => ?_
  refine stP_at hA (by decide) fun _ hA => ?_
  refine stP_at hA (by decide) fun _ hA => ?_
  have hA := hA.eq (cur' := namesA) (by kernel_rfl)
  refine ⟨h0, h1, ?_⟩
  rw [Nat.mul_one]
  refine ldStr_at hA (namesA_at (by omega)) ?_
  have := hK _ (hA.base hc0)
  unfold spell at this
  rwa [if_neg (by omega), if_neg (by omega)] at this
theorem wants_ok {op : Int} {w : World} {K : Bool → World → Prop} (hK : K (wants op) w) : c_lang_Wants op w K := by
  refine sim_lang_Wants ?_
  unfold sh_lang_Wants
  have yes : wants op = true → K true w := fun h => by rwa [h] at hK
  have no : wants op = false → K false w := fun h => by rwa [h] at hK
  simp only [iteB]
  repeat' split
  all_goals first
    | (refine yes ?_; simp_all [wants]; done)
    | (refine no ?_; simp_all [wants]; done)
    | simp_all
theorem is_ok {op : Int} {a b c d : ByteArray} {w : World} {K : Bool → World → Prop} (hK : ∀ w', Chg Nil w w' → K (isB op a b c d) w') : c_preluderef03_is op a b c d w K := by
  refine sim_preluderef03_is ?_
  unfold sh_preluderef03_is
  refine refSpell_ok fun w1 hc1 => ?_
  have := hK w1 hc1
  simp only [seq_eq]
  unfold isB at this
  cases h0 : seq (spell op) (ByteArray.mk #[]) <;> cases h1 : seq (spell op) a <;> cases h2 : seq (spell op) b <;> cases h3 : seq (spell op) c <;> simp_all
theorem refWants_ok {op : Int} {w : World} {K : Bool → World → Prop} (hK : ∀ w', Chg Nil w w' → K (wants op) w') : c_preluderef03_Wants op w K := by
  refine sim_preluderef03_Wants ?_
  unfold sh_preluderef03_Wants
  have go : ∀ w', Chg Nil w w' → K (wantsB op) w' := fun w' h => by rw [wants_eq]; exact hK w' h
  unfold wantsB at go
  refine is_ok fun w1 hc1 => ?_
  refine iteB_intro (fun h => ?_) (fun h => ?_)
  · have := go w1 hc1
    rw [h] at this
    simpa using this
  refine is_ok fun w2 hc2 => ?_
  refine iteB_intro (fun h2 => ?_) (fun h2 => ?_)
  · have := go w2 (hc1.step hc2 fun _ _ h => h)
    rw [h, h2] at this
    simpa using this
  refine is_ok fun w3 hc3 => ?_
  have := go w3 ((hc1.step hc2 fun _ _ h => h).step hc3 fun _ _ h => h)
  rw [h, h2] at this
  simpa using this
end Go.Proofs.YthgkehldimldgaaDoor
