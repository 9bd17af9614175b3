/- KeyB: keys as ten bytes. -/
import Derived.Test.YtlnhecbgjjglfaaDoorKeys
import Derived.Test.YtlnhecbgjjglfaaDoorRefU
import Derived.Test.YtlnhecbgjjglfaaDoorRowI
set_option linter.unusedVariables false
set_option linter.unusedSimpArgs false
namespace Go.Pl
open Go Go.Sh Go.RowKit
/-- A row's number as it is written: its top bit turned. -/
def topX (u : Int) : Int := bXor .u64 u 9223372036854775808
def rowU (r : Int) : Nat := (topX (IntKind.u64.wrap r)).toNat
theorem bXor_range (x y : Int) : 0 ≤ bXor .u64 x y ∧ bXor .u64 x y < 18446744073709551616 := by
  unfold bXor
  have h := (BitVec.ofInt (IntKind.u64.bits) x ^^^ BitVec.ofInt (IntKind.u64.bits) y).isLt
  have hb : (2 : Nat) ^ IntKind.u64.bits = 18446744073709551616 := by decide
  rw [hb] at h
  rw [wrap_u64 (by omega)]
  omega
theorem rowU_lt (r : Int) : rowU r < 18446744073709551616 := by
  have := bXor_range (IntKind.u64.wrap r) 9223372036854775808
  unfold rowU topX; omega
theorem rowU_eq (r : Int) : bXor .u64 (IntKind.u64.wrap r) 9223372036854775808 = (rowU r : Int) := by
  have := bXor_range (IntKind.u64.wrap r) 9223372036854775808
  unfold rowU topX; omega
theorem topX_topX {u : Int} (h : 0 ≤ u ∧ u < 18446744073709551616) : topX (topX u) = u := by
  have hx : ∀ x y : Int, bXor .u64 x y = (((BitVec.ofInt 64 x ^^^ BitVec.ofInt 64 y).toNat : Nat) : Int) := fun x y => by
    have hlt := (BitVec.ofInt 64 x ^^^ BitVec.ofInt 64 y).isLt
    show IntKind.u64.wrap (((BitVec.ofInt 64 x ^^^ BitVec.ofInt 64 y).toNat : Nat) : Int) = _
    rw [wrap_u64 (by omega)]
  unfold topX
  rw [hx, hx]
  have e : BitVec.ofInt 64 (((BitVec.ofInt 64 u ^^^ BitVec.ofInt 64 9223372036854775808).toNat : Nat) : Int) = BitVec.ofInt 64 u ^^^ BitVec.ofInt 64 9223372036854775808 := by
    rw [BitVec.ofInt_natCast, BitVec.ofNat_toNat, BitVec.setWidth_eq]
  rw [e, BitVec.xor_assoc, BitVec.xor_self, BitVec.xor_zero]
  have : BitVec.ofInt 64 u = BitVec.ofNat 64 u.toNat := by
    rw [← BitVec.ofInt_natCast]; congr 1; omega
  rw [this, BitVec.toNat_ofNat]
  omega
/-- The j-th byte of a key. -/
def kN (k : Ky) (j : Nat) : Nat := if j = 0 then k.1.toNat / 256 % 256 else if j = 1 then k.1.toNat % 256 else rowU k.2 / 256 ^ (9 - j) % 256
theorem kN_lt (k : Ky) (j : Nat) : kN k j < 256 := by unfold kN; split; omega; split <;> omega
def kB (k : Ky) : List UInt8 := (List.range 10).map fun j => UInt8.ofNat (kN k j)
@[simp] theorem kB_length (k : Ky) : (kB k).length = 10 := by simp [kB]
theorem kB_ints (k : Ky) : (kB k).map (fun b => (b.toNat : Int)) = (List.range 10).map fun j => (kN k j : Int) := by
  unfold kB
  rw [List.map_map]
  refine List.map_congr_left fun j _ => ?_
  have := kN_lt k j
  simp only [Function.comp, UInt8.toNat_ofNat']
  omega
theorem RowI.setA {w : World} {b n : Nat} {k : IntKind} {t : TypeId} {ds : List Int} {i v : Int} {K : World → Prop} (h : RowI w b k t ds) (hn : n = ds.length) (h0 : 0 ≤ i) (h1 : i.toNat < ds.length)
    (hK : ∀ w', Ch [some b] w w' → RowI w' b k t (ds.set i.toNat v) → w'.heap.size = w.heap.size → K w') : arrP n i (stP ((⟨b, 0, none⟩ : Addr).add (Int.toNat i * 1)) (.int k v) w K) := by
  obtain ⟨_, _, ad, he, hs⟩ := h.set hn h0 h1 hK
  cases he
  subst hn
  exact ⟨h0, by omega, hs⟩
theorem RowI.getA {w : World} {b n : Nat} {k : IntKind} {t : TypeId} {ds : List Int} {i v : Int} {K : Int → Prop} (h : RowI w b k t ds) (hn : n = ds.length) (h0 : 0 ≤ i) (hv : ds[i.toNat]? = some v) (hK : K v) : arrP n i (ldI k ((⟨b, 0, none⟩ : Addr).add (Int.toNat i * 1)) w K) := by
  obtain ⟨_, _, ad, he, hs⟩ := h.get hn h0 hv hK
  cases he
  have := (List.getElem?_eq_some_iff.1 hv).1
  subst hn
  exact ⟨h0, by omega, hs⟩
theorem ten_of {ds : List Int} {k : Ky} (hl : ds.length = 10) (h : ∀ j, j < 10 → ds[j]? = some (kN k j : Int)) : ds = [(kN k 0 : Int), kN k 1, kN k 2, kN k 3, kN k 4, kN k 5, kN k 6, kN k 7, kN k 8, kN k 9] := by
  refine List.ext_getElem? fun j => ?_
  rcases Nat.lt_or_ge j 10 with g | g
  · rw [h j g]
    rcases (by omega : j = 0 ∨ j = 1 ∨ j = 2 ∨ j = 3 ∨ j = 4 ∨ j = 5 ∨ j = 6 ∨ j = 7 ∨ j = 8 ∨ j = 9) with rfl | rfl | rfl | rfl | rfl | rfl | rfl | rfl | rfl | rfl <;> rfl
  · rw [List.getElem?_eq_none (by omega), List.getElem?_eq_none (by simpa using g)]
theorem RowI.st {w : World} {b : Nat} {k : IntKind} {t : TypeId} {ds : List Int} {i : Nat} {v : Int} {K : World → Prop} (h : RowI w b k t ds) (h1 : i < ds.length)
    (hK : ∀ w', Ch [some b] w w' → RowI w' b k t (ds.set i v) → w'.heap.size = w.heap.size → K w') : stP ((⟨b, 0, none⟩ : Addr).add i) (.int k v) w K := by
  refine stB h (by simpa using h1) fun w' hc hb hs => hK w' hc ?_ hs
  unfold RowI
  rw [← Is_set]; exact hb
theorem RowI.ld {w : World} {b : Nat} {k : IntKind} {t : TypeId} {ds : List Int} {i : Nat} {v : Int} {K : Int → Prop} (h : RowI w b k t ds) (hv : ds[i]? = some v) (hK : K v) : ldI k ((⟨b, 0, none⟩ : Addr).add i) w K := by
  have h1 := (List.getElem?_eq_some_iff.1 hv).1
  exact ldI_b h (by rw [List.getElem?_toArray, Is_at k ds h1, (List.getElem?_eq_some_iff.1 hv).2]) hK
/-- Ten bytes are written. -/
theorem tenIn {w : World} {c : Nat} {t : TypeId} {x0 x1 x2 x3 x4 x5 x6 x7 x8 x9 : Int} {K : World → Prop} (hc : RowI w c .u8 t [0, 0, 0, 0, 0, 0, 0, 0, 0, 0])
    (hK : ∀ w', Ch [some c] w w' → RowI w' c .u8 t [x0, x1, x2, x3, x4, x5, x6, x7, x8, x9] → K w') :
    stP (⟨c, 0, none⟩ : Addr) (.int .u8 x0) w fun v1 => stP ((⟨c, 0, none⟩ : Addr).add 1) (.int .u8 x1) v1 fun v2 => stP ((⟨c, 0, none⟩ : Addr).add 2) (.int .u8 x2) v2 fun v3 => stP ((⟨c, 0, none⟩ : Addr).add 3) (.int .u8 x3) v3 fun v4 => stP ((⟨c, 0, none⟩ : Addr).add 4) (.int .u8 x4) v4 fun v5 => stP ((⟨c, 0, none⟩ : Addr).add 5) (.int .u8 x5) v5 fun v6 => stP ((⟨c, 0, none⟩ : Addr).add 6) (.int .u8 x6) v6 fun v7 => stP ((⟨c, 0, none⟩ : Addr).add 7) (.int .u8 x7) v7 fun v8 => stP ((⟨c, 0, none⟩ : Addr).add 8) (.int .u8 x8) v8 fun v9 => stP ((⟨c, 0, none⟩ : Addr).add 9) (.int .u8 x9) v9 fun v10 => K v10 := by
  refine RowI.st (i := 0) hc (by simp) fun w1 c1 (b1 : RowI w1 c .u8 t [x0, 0, 0, 0, 0, 0, 0, 0, 0, 0]) _ => ?_
  refine RowI.st (i := 1) b1 (by simp) fun w2 c2 (b2 : RowI w2 c .u8 t [x0, x1, 0, 0, 0, 0, 0, 0, 0, 0]) _ => ?_
  refine RowI.st (i := 2) b2 (by simp) fun w3 c3 (b3 : RowI w3 c .u8 t [x0, x1, x2, 0, 0, 0, 0, 0, 0, 0]) _ => ?_
  refine RowI.st (i := 3) b3 (by simp) fun w4 c4 (b4 : RowI w4 c .u8 t [x0, x1, x2, x3, 0, 0, 0, 0, 0, 0]) _ => ?_
  refine RowI.st (i := 4) b4 (by simp) fun w5 c5 (b5 : RowI w5 c .u8 t [x0, x1, x2, x3, x4, 0, 0, 0, 0, 0]) _ => ?_
  refine RowI.st (i := 5) b5 (by simp) fun w6 c6 (b6 : RowI w6 c .u8 t [x0, x1, x2, x3, x4, x5, 0, 0, 0, 0]) _ => ?_
  refine RowI.st (i := 6) b6 (by simp) fun w7 c7 (b7 : RowI w7 c .u8 t [x0, x1, x2, x3, x4, x5, x6, 0, 0, 0]) _ => ?_
  refine RowI.st (i := 7) b7 (by simp) fun w8 c8 (b8 : RowI w8 c .u8 t [x0, x1, x2, x3, x4, x5, x6, x7, 0, 0]) _ => ?_
  refine RowI.st (i := 8) b8 (by simp) fun w9 c9 (b9 : RowI w9 c .u8 t [x0, x1, x2, x3, x4, x5, x6, x7, x8, 0]) _ => ?_
  refine RowI.st (i := 9) b9 (by simp) fun w10 c10 (b10 : RowI w10 c .u8 t [x0, x1, x2, x3, x4, x5, x6, x7, x8, x9]) _ => ?_
  exact hK w10 (((((((((c1.tr c2).tr c3).tr c4).tr c5).tr c6).tr c7).tr c8).tr c9).tr c10) b10
/-- Ten bytes are read. -/
theorem tenRd {w : World} {b : Nat} {t : TypeId} {x0 x1 x2 x3 x4 x5 x6 x7 x8 x9 : Int} {K : Int → Int → Int → Int → Int → Int → Int → Int → Int → Int → Prop} (hb : RowI w b .u8 t [x0, x1, x2, x3, x4, x5, x6, x7, x8, x9]) (hK : K x0 x1 x2 x3 x4 x5 x6 x7 x8 x9) :
    ldI .u8 (⟨b, 0, none⟩ : Addr) w fun n0 => ldI .u8 ((⟨b, 0, none⟩ : Addr).add 1) w fun n1 => ldI .u8 ((⟨b, 0, none⟩ : Addr).add 2) w fun n2 => ldI .u8 ((⟨b, 0, none⟩ : Addr).add 3) w fun n3 => ldI .u8 ((⟨b, 0, none⟩ : Addr).add 4) w fun n4 => ldI .u8 ((⟨b, 0, none⟩ : Addr).add 5) w fun n5 => ldI .u8 ((⟨b, 0, none⟩ : Addr).add 6) w fun n6 => ldI .u8 ((⟨b, 0, none⟩ : Addr).add 7) w fun n7 => ldI .u8 ((⟨b, 0, none⟩ : Addr).add 8) w fun n8 => ldI .u8 ((⟨b, 0, none⟩ : Addr).add 9) w fun n9 => K n0 n1 n2 n3 n4 n5 n6 n7 n8 n9 := by
  refine RowI.ld (i := 0) hb rfl ?_
  refine RowI.ld (i := 1) hb rfl ?_
  refine RowI.ld (i := 2) hb rfl ?_
  refine RowI.ld (i := 3) hb rfl ?_
  refine RowI.ld (i := 4) hb rfl ?_
  refine RowI.ld (i := 5) hb rfl ?_
  refine RowI.ld (i := 6) hb rfl ?_
  refine RowI.ld (i := 7) hb rfl ?_
  refine RowI.ld (i := 8) hb rfl ?_
  refine RowI.ld (i := 9) hb rfl ?_
  exact hK
theorem pow256 (j : Nat) : (2 : Nat) ^ (8 * j) = 256 ^ j := by rw [Nat.pow_mul]
end Go.Pl
namespace Go.Proofs.YtlnhecbgjjglfaaDoor
open Go Go.Sh Go.Pl Go.RowKit Go.Num
end Go.Proofs.YtlnhecbgjjglfaaDoor
