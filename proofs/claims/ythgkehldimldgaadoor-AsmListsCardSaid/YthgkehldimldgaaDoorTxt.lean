/- Txt: the text of a library, plainly. -/
import Derived.Test.YthgkehldimldgaaDoorNames
import Derived.Test.YthgkehldimldgaaDoorDigP
import Derived.Test.YthgkehldimldgaaDoorLib
set_option linter.unusedVariables false
set_option linter.unusedSimpArgs false
namespace Go.Lang
open Go Go.Names Go.Lib
def jmp (op : Int) : Bool := op == 30 || op == 31
def lnT (x : Int × Int) : List UInt8 := [32, 32] ++ (spell x.1).data.toList ++ (if jmp x.1 then [32, 76] ++ itoa x.2 else if wants x.1 then [32] ++ itoa x.2 else []) ++ [10]
def aims (l : List (Int × Int)) (k : Int) : Nat := (l.filter fun x => jmp x.1 && x.2 == k).length
def lbT (l : List (Int × Int)) (i : Nat) : List UInt8 := if aims l i = 0 then [] else [76] ++ itoa i ++ [58, 10]
def lnO : Option (Int × Int) → List UInt8
  | some x => lnT x
  | none => []
def itT (l : List (Int × Int)) (i : Nat) : List UInt8 := lbT l i ++ lnO l[i]?
def bodyT (l : List (Int × Int)) (n : Nat) : List UInt8 := (List.range n).flatMap (itT l)
def hdT (nm : ByteArray) (a b c d : Int) : List UInt8 := [112, 114, 111, 99, 32] ++ nm.data.toList ++ [32, 97, 114, 103, 115, 32] ++ itoa a ++ [32, 114, 101, 97, 100, 115, 32] ++ itoa b ++ [32, 119, 114, 105, 116, 101, 115, 32] ++ itoa c ++ [32, 108, 111, 99, 97, 108, 115, 32] ++ itoa d ++ [10]
def oneT (x : Pc) : List UInt8 := hdT x.name x.p.a x.p.b x.p.c x.p.d ++ bodyT x.p.l (x.p.l.length + 1) ++ [101, 110, 100, 10]
def txtT (ps : List Pc) : List UInt8 := ps.flatMap oneT
def listT (ps : List Pc) : List UInt8 × Int := if (checkT ps).2 ≠ 0 then ([], (checkT ps).2) else if (txtT ps).length > 65536 then ([], 44) else (txtT ps, 0)
theorem itoa_len {n : Int} (h : Dig.I64 n) : (itoa n).length ≤ 21 := by
  unfold itoa
  unfold Dig.I64 at h
  split
  · have := Dig.dec_len20 (u := n.natAbs) (by omega)
    simp; omega
  · have := Dig.dec_len20 (u := n.toNat) (by omega)
    omega
theorem spell_len (op : Int) : (spell op).data.toList.length ≤ 5 := by
  unfold spell
  split
  · simp
  · split
    · simp
    · have : ∀ i : Fin 37, (nm i.val).data.toList.length ≤ 5 := by decide +kernel
      exact this ⟨op.toNat, by omega⟩
theorem lnT_len {x : Int × Int} (h : Dig.I64 x.2) : (lnT x).length ≤ 31 := by
  have h1 := itoa_len h
  have h2 := spell_len x.1
  unfold lnT
  split
  · simp; simp at h2; omega
  · split <;> (simp; simp at h2; omega)
theorem lbT_len {l : List (Int × Int)} {i : Nat} (h : i ≤ 9223372036854775807) : (lbT l i).length ≤ 24 := by
  have h1 := itoa_len (n := (i : Int)) (by unfold Dig.I64; omega)
  unfold lbT
  split
  · simp
  · simp; omega
theorem lnO_len {l : List (Int × Int)} {i : Nat} (h : ∀ x ∈ l, Dig.I64 x.2) : (lnO l[i]?).length ≤ 31 := by
  cases hx : l[i]? with
  | none => simp [lnO]
  | some x => exact lnT_len (h x (List.mem_of_getElem? hx))
theorem itT_len {l : List (Int × Int)} {i : Nat} (h : ∀ x ∈ l, Dig.I64 x.2) (hi : i ≤ 9223372036854775807) : (itT l i).length ≤ 55 := by
  have h1 := lbT_len (l := l) hi
  have h2 := lnO_len (i := i) h
  unfold itT
  rw [List.length_append]; omega
theorem bodyT_succ (l : List (Int × Int)) (n : Nat) : bodyT l (n + 1) = bodyT l n ++ itT l n := by
  unfold bodyT
  rw [List.range_succ, List.flatMap_append]
  simp
theorem bodyT_len {l : List (Int × Int)} (h : ∀ x ∈ l, Dig.I64 x.2) : ∀ {n : Nat}, n ≤ 9223372036854775807 → (bodyT l n).length ≤ 55 * n
  | 0, _ => by simp [bodyT]
  | n + 1, hn => by
    have h1 := bodyT_len h (n := n) (by omega)
    have h2 := itT_len (i := n) h (by omega)
    rw [bodyT_succ, List.length_append]; omega
def I64P (x : Pc) : Prop := Dig.I64 x.p.a ∧ Dig.I64 x.p.b ∧ Dig.I64 x.p.c ∧ Dig.I64 x.p.d ∧ ∀ y ∈ x.p.l, Dig.I64 y.1 ∧ Dig.I64 y.2
theorem hdT_len {nm : ByteArray} {a b c d : Int} (ha : Dig.I64 a) (hb : Dig.I64 b) (hc : Dig.I64 c) (hd : Dig.I64 d) : (hdT nm a b c d).length ≤ 119 + nm.size := by
  have h1 := itoa_len ha
  have h2 := itoa_len hb
  have h3 := itoa_len hc
  have h4 := itoa_len hd
  have h5 : nm.data.toList.length = nm.size := Array.length_toList
  unfold hdT
  simp only [List.length_append, List.length_cons, List.length_nil]
  omega
theorem oneT_len {x : Pc} (h : I64P x) (hl : x.p.l.length ≤ 8800000000000) : (oneT x).length ≤ 200 * (1 + x.name.size + x.p.l.length) := by
  obtain ⟨ha, hb, hc, hd, hy⟩ := h
  have h1 := hdT_len (nm := x.name) ha hb hc hd
  have h2 := bodyT_len (fun y hy' => (hy y hy').2) (n := x.p.l.length + 1) (by omega)
  unfold oneT
  simp only [List.length_append, List.length_cons, List.length_nil]
  omega
def bulkN (ps : List Pc) : Nat := (ps.map fun x => 1 + x.name.size + x.p.l.length).sum
theorem bulkN_take {ps : List Pc} {i : Nat} (h : i < ps.length) : bulkN (ps.take (i + 1)) = bulkN (ps.take i) + (1 + ps[i].name.size + ps[i].p.l.length) := by
  unfold bulkN
  rw [List.take_succ_eq_append_getElem h, List.map_append, List.sum_append]
  simp
theorem bulkN_mono : ∀ (ps : List Pc) (i : Nat), bulkN (ps.take i) ≤ bulkN ps
  | [], i => by simp
  | p :: ps, 0 => by simp [bulkN]
  | p :: ps, i + 1 => by
    have := bulkN_mono ps i
    simp only [bulkN, List.take_succ_cons, List.map_cons, List.sum_cons] at *
    omega
theorem bulkN_len : ∀ (ps : List Pc), ps.length ≤ bulkN ps
  | [] => Nat.zero_le _
  | p :: ps => by
    have := bulkN_len ps
    simp only [bulkN, List.map_cons, List.sum_cons, List.length_cons] at *
    omega
theorem txtT_take {ps : List Pc} {i : Nat} (h : i < ps.length) : txtT (ps.take (i + 1)) = txtT (ps.take i) ++ oneT ps[i] := by
  unfold txtT
  rw [List.take_succ_eq_append_getElem h, List.flatMap_append]
  simp
theorem txtT_len : ∀ {ps : List Pc}, (∀ x ∈ ps, I64P x ∧ x.p.l.length ≤ 8800000000000) → (txtT ps).length ≤ 200 * bulkN ps
  | [], _ => by simp [txtT]
  | p :: ps, h => by
    have h1 := txtT_len (ps := ps) fun x hx => h x (by simp [hx])
    obtain ⟨h2, h3⟩ := h p (by simp)
    have h4 := oneT_len h2 h3
    have e1 : txtT (p :: ps) = oneT p ++ txtT ps := by simp [txtT]
    have e2 : bulkN (p :: ps) = (1 + p.name.size + p.p.l.length) + bulkN ps := by simp [bulkN]
    rw [e1, e2, List.length_append]; omega
/-- How many of the first are aimed at a place. -/
theorem aims_take {l : List (Int × Int)} {i : Nat} (h : i < l.length) (k : Int) : aims (l.take (i + 1)) k = aims (l.take i) k + if jmp l[i].1 && l[i].2 == k then 1 else 0 := by
  unfold aims
  rw [List.take_succ_eq_append_getElem h, List.filter_append, List.length_append]
  cases hb : (jmp l[i].1 && l[i].2 == k) <;> simp [hb]
theorem aims_le (l : List (Int × Int)) (k : Int) : aims l k ≤ l.length := List.length_filter_le _ _
theorem aims_pos {l : List (Int × Int)} {k : Int} : aims l k ≠ 0 ↔ ∃ i, ∃ h : i < l.length, jmp l[i].1 = true ∧ l[i].2 = k := by
  unfold aims
  constructor
  · intro h
    obtain ⟨x, hx⟩ := List.exists_mem_of_ne_nil (l.filter fun x => jmp x.1 && x.2 == k) (fun he => h (by rw [he]; rfl))
    obtain ⟨hm, hp⟩ := List.mem_filter.1 hx
    obtain ⟨i, hi, rfl⟩ := List.mem_iff_getElem.1 hm
    simp only [Bool.and_eq_true, beq_iff_eq] at hp
    exact ⟨i, hi, hp.1, hp.2⟩
  · rintro ⟨i, hi, h1, h2⟩ h0
    have : l[i] ∈ l.filter fun x => jmp x.1 && x.2 == k := List.mem_filter.2 ⟨by simp, by simp [h1, h2]⟩
    rw [List.eq_nil_of_length_eq_zero h0] at this
    cases this
end Go.Lang
