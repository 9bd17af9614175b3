/- KeyB: keys as ten bytes. -/
import Derived.Test.YtlnhecbgjjglfaaGreatKeys
import Derived.Test.YtlnhecbgjjglfaaGreatRefU
import Derived.Test.YtlnhecbgjjglfaaGreatRowI
set_option linter.unusedVariables false
set_option linter.unusedSimpArgs false
namespace Go.Pl
open Go Go.Sh Go.RowKit
/-- A row's number as it is written: its top bit turned. -/
def topX (u : Int) : Int := bXor .u64 u 9223372036854775808
def rowU (r : Int) : Nat := (topX (IntKind.u64.wrap r)).toNat
theorem bXor_range (x y : Int) : 0 ≤ bXor .u64 x y ∧ bXor .u64 x y < 18446744073709551616 := by
  unfold bXor
  have h := (BitVec.ofInt (IntKind.u64.bits) x ^^^ BitVec.ofInt (IntKind.u64.bits) y).isLt
  have hb : (2 : Nat) ^ IntKind.u64.bits = 18446744073709551616 := by decide
  rw [hb] at h
  rw [wrap_u64 (by omega)]
  omega
theorem rowU_lt (r : Int) : rowU r < 18446744073709551616 := by
  have := bXor_range (IntKind.u64.wrap r) 9223372036854775808
  unfold rowU topX; omega
theorem rowU_eq (r : Int) : bXor .u64 (IntKind.u64.wrap r) 9223372036854775808 = (rowU r : Int) := by
  have := bXor_range (IntKind.u64.wrap r) 9223372036854775808
  unfold rowU topX; omega
theorem topX_topX {u : Int} (h : 0 ≤ u ∧ u < 18446744073709551616) : topX (topX u) = u := by
  have hx : ∀ x y : Int, bXor .u64 x y = (((BitVec.ofInt 64 x ^^^ BitVec.ofInt 64 y).toNat : Nat) : Int) := fun x y => by
    have hlt := (BitVec.ofInt 64 x ^^^ BitVec.ofInt 64 y).isLt
    show IntKind.u64.wrap (((BitVec.ofInt 64 x ^^^ BitVec.ofInt 64 y).toNat : Nat) : Int) = _
    rw [wrap_u64 (by omega)]
  unfold topX
  rw [hx, hx]
  have e : BitVec.ofInt 64 (((BitVec.ofInt 64 u ^^^ BitVec.ofInt 64 9223372036854775808).toNat : Nat) : Int) = BitVec.ofInt 64 u ^^^ BitVec.ofInt 64 9223372036854775808 := by
    rw [BitVec.ofInt_natCast, BitVec.ofNat_toNat, BitVec.setWidth_eq]
  rw [e, BitVec.xor_assoc, BitVec.xor_self, BitVec.xor_zero]
  have : BitVec.ofInt 64 u = BitVec.ofNat 64 u.toNat := by
    rw [← BitVec.ofInt_natCast]; congr 1; omega
  rw [this, BitVec.toNat_ofNat]
  omega
/-- The j-th byte of a key. -/
def kN (k : Ky) (j : Nat) : Nat := if j = 0 then k.1.toNat / 256 % 256 else if j = 1 then k.1.toNat % 256 else rowU k.2 / 256 ^ (9 - j) % 256
theorem kN_lt (k : Ky) (j : Nat) : kN k j < 256 := by unfold kN; split; omega; split <;> omega
def kB (k : Ky) : List UInt8 := (List.range 10).map fun j => UInt8.ofNat (kN k j)
@[simp] theorem kB_length (k : Ky) : (kB k).length = 10 := by simp [kB]
theorem kB_ints (k : Ky) : (kB k).map (fun b => (b.toNat : Int)) = (List.range 10).map fun j => (kN k j : Int) := by
  unfold kB
  rw [List.map_map]
  refine List.map_congr_left fun j _ => ?_
  have := kN_lt k j
  simp only [Function.comp, UInt8.toNat_ofNat']
  omega
theorem RowI.setA {w : World} {b n : Nat} {k : IntKind} {t : TypeId} {ds : List Int} {i v : Int} {K : World → Prop} (h : RowI w b k t ds) (hn : n = ds.length) (h0 : 0 ≤ i) (h1 : i.toNat < ds.length)
    (hK : ∀ w', Ch [some b] w w' → RowI w' b k t (ds.set i.toNat v) → w'.heap.size = w.heap.size → K w') : arrP n i (stP ((⟨b, 0, none⟩ : Addr).add (Int.toNat i * 1)) (.int k v) w K) := by
  obtain ⟨_, _, ad, he, hs⟩ := h.set hn h0 h1 hK
  cases he
  subst hn
  exact ⟨h0, by omega, hs⟩
theorem RowI.getA {w : World} {b n : Nat} {k : IntKind} {t : TypeId} {ds : List Int} {i v : Int} {K : Int → Prop} (h : RowI w b k t ds) (hn : n = ds.length) (h0 : 0 ≤ i) (hv : ds[i.toNat]? = some v) (hK : K v) : arrP n i (ldI k ((⟨b, 0, none⟩ : Addr).add (Int.toNat i * 1)) w K) := by
  obtain ⟨_, _, ad, he, hs⟩ := h.get hn h0 hv hK
  cases he
  have := (List.getElem?_eq_some_iff.1 hv).1
  subst hn
  exact ⟨h0, by omega, hs⟩
theorem ten_of {ds : List Int} {k : Ky} (hl : ds.length = 10) (h : ∀ j, j < 10 → ds[j]? = some (kN k j : Int)) : ds = [(kN k 0 : Int), kN k 1, kN k 2, kN k 3, kN k 4, kN k 5, kN k 6, kN k 7, kN k 8, kN k 9] := by
  refine List.ext_getElem? fun j => ?_
  rcases Nat.lt_or_ge j 10 with g | g
  · rw [h j g]
    rcases (by omega : j = 0 ∨ j = 1 ∨ j = 2 ∨ j = 3 ∨ j = 4 ∨ j = 5 ∨ j = 6 ∨ j = 7 ∨ j = 8 ∨ j = 9) with rfl | rfl | rfl | rfl | rfl | rfl | rfl | rfl | rfl | rfl <;> rfl
  · rw [List.getElem?_eq_none (by omega), List.getElem?_eq_none (by simpa using g)]
theorem RowI.st {w : World} {b : Nat} {k : IntKind} {t : TypeId} {ds : List Int} {i : Nat} {v : Int} {K : World → Prop} (h : RowI w b k t ds) (h1 : i < ds.length)
    (hK : ∀ w', Ch [some b] w w' → RowI w' b k t (ds.set i v) → w'.heap.size = w.heap.size → K w') : stP ((⟨b, 0, none⟩ : Addr).add i) (.int k v) w K := by
  refine stB h (by simpa using h1) fun w' hc hb hs => hK w' hc ?_ hs
  unfold RowI
  rw [← Is_set]; exact hb
theorem RowI.ld {w : World} {b : Nat} {k : IntKind} {t : TypeId} {ds : List Int} {i : Nat} {v : Int} {K : Int → Prop} (h : RowI w b k t ds) (hv : ds[i]? = some v) (hK : K v) : ldI k ((⟨b, 0, none⟩ : Addr).add i) w K := by
  have h1 := (List.getElem?_eq_some_iff.1 hv).1
  exact ldI_b h (by rw [List.getElem?_toArray, Is_at k ds h1, (List.getElem?_eq_some_iff.1 hv).2]) hK
/-- Ten bytes are written. -/
theorem tenIn {w : World} {c : Nat} {t : TypeId} {x0 x1 x2 x3 x4 x5 x6 x7 x8 x9 : Int} {K : World → Prop} (hc : RowI w c .u8 t [0, 0, 0, 0, 0, 0, 0, 0, 0, 0])
    (hK : ∀ w', Ch [some c] w w' → RowI w' c .u8 t [x0, x1, x2, x3, x4, x5, x6, x7, x8, x9] → K w') :
    stP (⟨c, 0, none⟩ : Addr) (.int .u8 x0) w fun v1 => stP ((⟨c, 0, none⟩ : Addr).add 1) (.int .u8 x1) v1 fun v2 => stP ((⟨c, 0, none⟩ : Addr).add 2) (.int .u8 x2) v2 fun v3 => stP ((⟨c, 0, none⟩ : Addr).add 3) (.int .u8 x3) v3 fun v4 => stP ((⟨c, 0, none⟩ : Addr).add 4) (.int .u8 x4) v4 fun v5 => stP ((⟨c, 0, none⟩ : Addr).add 5) (.int .u8 x5) v5 fun v6 => stP ((⟨c, 0, none⟩ : Addr).add 6) (.int .u8 x6) v6 fun v7 => stP ((⟨c, 0, none⟩ : Addr).add 7) (.int .u8 x7) v7 fun v8 => stP ((⟨c, 0, none⟩ : Addr).add 8) (.int .u8 x8) v8 fun v9 => stP ((⟨c, 0, none⟩ : Addr).add 9) (.int .u8 x9) v9 fun v10 => K v10 := by
  refine RowI.st (i := 0) hc (by simp) fun w1 c1 (b1 : RowI w1 c .u8 t [x0, 0, 0, 0, 0, 0, 0, 0, 0, 0]) _ => ?_
  refine RowI.st (i := 1) b1 (by simp) fun w2 c2 (b2 : RowI w2 c .u8 t [x0, x1, 0, 0, 0, 0, 0, 0, 0, 0]) _ => ?_
  refine RowI.st (i := 2) b2 (by simp) fun w3 c3 (b3 : RowI w3 c .u8 t [x0, x1, x2, 0, 0, 0, 0, 0, 0, 0]) _ => ?_
  refine RowI.st (i := 3) b3 (by simp) fun w4 c4 (b4 : RowI w4 c .u8 t [x0, x1, x2, x3, 0, 0, 0, 0, 0, 0]) _ => ?_
  refine RowI.st (i := 4) b4 (by simp) fun w5 c5 (b5 : RowI w5 c .u8 t [x0, x1, x2, x3, x4, 0, 0, 0, 0, 0]) _ => ?_
  refine RowI.st (i := 5) b5 (by simp) fun w6 c6 (b6 : RowI w6 c .u8 t [x0, x1, x2, x3, x4, x5, 0, 0, 0, 0]) _ => ?_
  refine RowI.st (i := 6) b6 (by simp) fun w7 c7 (b7 : RowI w7 c .u8 t [x0, x1, x2, x3, x4, x5, x6, 0, 0, 0]) _ => ?_
  refine RowI.st (i := 7) b7 (by simp) fun w8 c8 (b8 : RowI w8 c .u8 t [x0, x1, x2, x3, x4, x5, x6, x7, 0, 0]) _ => ?_
  refine RowI.st (i := 8) b8 (by simp) fun w9 c9 (b9 : RowI w9 c .u8 t [x0, x1, x2, x3, x4, x5, x6, x7, x8, 0]) _ => ?_
  refine RowI.st (i := 9) b9 (by simp) fun w10 c10 (b10 : RowI w10 c .u8 t [x0, x1, x2, x3, x4, x5, x6, x7, x8, x9]) _ => ?_
  exact hK w10 (((((((((c1.tr c2).tr c3).tr c4).tr c5).tr c6).tr c7).tr c8).tr c9).tr c10) b10
/-- Ten bytes are read. -/
theorem tenRd {w : World} {b : Nat} {t : TypeId} {x0 x1 x2 x3 x4 x5 x6 x7 x8 x9 : Int} {K : Int → Int → Int → Int → Int → Int → Int → Int → Int → Int → Prop} (hb : RowI w b .u8 t [x0, x1, x2, x3, x4, x5, x6, x7, x8, x9]) (hK : K x0 x1 x2 x3 x4 x5 x6 x7 x8 x9) :
    ldI .u8 (⟨b, 0, none⟩ : Addr) w fun n0 => ldI .u8 ((⟨b, 0, none⟩ : Addr).add 1) w fun n1 => ldI .u8 ((⟨b, 0, none⟩ : Addr).add 2) w fun n2 => ldI .u8 ((⟨b, 0, none⟩ : Addr).add 3) w fun n3 => ldI .u8 ((⟨b, 0, none⟩ : Addr).add 4) w fun n4 => ldI .u8 ((⟨b, 0, none⟩ : Addr).add 5) w fun n5 => ldI .u8 ((⟨b, 0, none⟩ : Addr).add 6) w fun n6 => ldI .u8 ((⟨b, 0, none⟩ : Addr).add 7) w fun n7 => ldI .u8 ((⟨b, 0, none⟩ : Addr).add 8) w fun n8 => ldI .u8 ((⟨b, 0, none⟩ : Addr).add 9) w fun n9 => K n0 n1 n2 n3 n4 n5 n6 n7 n8 n9 := by
  refine RowI.ld (i := 0) hb rfl ?_
  refine RowI.ld (i := 1) hb rfl ?_
  refine RowI.ld (i := 2) hb rfl ?_
  refine RowI.ld (i := 3) hb rfl ?_
  refine RowI.ld (i := 4) hb rfl ?_
  refine RowI.ld (i := 5) hb rfl ?_
  refine RowI.ld (i := 6) hb rfl ?_
  refine RowI.ld (i := 7) hb rfl ?_
  refine RowI.ld (i := 8) hb rfl ?_
  refine RowI.ld (i := 9) hb rfl ?_
  exact hK
theorem pow256 (j : Nat) : (2 : Nat) ^ (8 * j) = 256 ^ j := by rw [Nat.pow_mul]
end Go.Pl
namespace Go.Proofs.YtlnhecbgjjglfaaGreat
open Go Go.Sh Go.Pl Go.RowKit Go.Num
set_option maxHeartbeats 1000000 in
set_option maxRecDepth 20000 in
theorem form_ok {k : Ky} {w : World} {K : Int → Int → Int → Int → Int → Int → Int → Int → Int → Int → World → Prop} (hk : kOk k = true)
    (hK : ∀ w', Ch [] w w' → K (kN k 0) (kN k 1) (kN k 2) (kN k 3) (kN k 4) (kN k 5) (kN k 6) (kN k 7) (kN k 8) (kN k 9) w') : c_keys_form k.1 k.2 w K := by
  refine sim_keys_form ?_
  unfold sh_keys_form
  have hk' : 0 ≤ k.1 ∧ k.1 ≤ 65535 := by simpa [kOk] using hk
  refine newB fun k1 w1 hc1 hb1 hk1 hs1 => ?_
  refine newB fun k2 w2 hc2 hb2 hk2 hs2 => ?_
  refine newB fun k3 w3 hc3 hb3 hk3 hs3 => ?_
  replace hb1 := (hb1.ch0 hc2).ch0 hc3
  replace hb2 := hb2.ch0 hc3
  have dn := Ch.drew w3
  have hc03 := ((hc1.tr hc2).tr hc3).tr dn
  replace hb1 := hb1.ch0 dn
  replace hb2 := hb2.ch0 dn
  have r3 : RowI w3.drew k3 .u8 121 [0, 0, 0, 0, 0, 0, 0, 0, 0, 0] := hb3.ch0 dn
  refine ldI_b (o := 0) hb1 rfl ⟨by omega, ?_⟩
  refine ldI_b (o := 0) hb1 rfl ?_
  have z0 : w.heap.size ≤ k3 := by omega
  refine r3.setA rfl (by omega) (by simp) fun w4 hc4 r4 hz4 => ?_
  have hb1' := hb1.ch hc4 (nin1' (by omega))
  have hb2' := hb2.ch hc4 (nin1' (by omega))
  refine ⟨by rw [hb1'.cell]; rfl, ?_⟩
  refine r4.setA rfl (by omega) (by simp) fun w5 hc5 r5 hz5 => ?_
  have hb1' := hb1'.ch hc5 (nin1' (by omega))
  have hb2' := hb2'.ch hc5 (nin1' (by omega))
  refine ldI_b (o := 1) hb1' rfl ?_
  rw [rowU_eq]
  have v0 : IntKind.u8.wrap (Int.fdiv k.1 (2 ^ (min (Int.toNat 8) (IntKind.bits .i64)))) = (kN k 0 : Int) := by
    have e8 : min (Int.toNat 8) (IntKind.bits .i64) = 8 := rfl
    obtain ⟨n, hn⟩ : ∃ n : Nat, k.1 = (n : Int) := ⟨k.1.toNat, by omega⟩
    rw [e8, hn, fdiv_pow]
    unfold kN
    rw [if_pos rfl, hn, Int.toNat_natCast, wrap_u8 (by omega)]
    omega
  have v1 : IntKind.u8.wrap k.1 = (kN k 1 : Int) := by
    unfold kN
    rw [if_neg (by omega), if_pos rfl]
    simp [IntKind.wrap, IntKind.signed, IntKind.bits]; omega
  rw [v0, v1] at r5
  have hc05 : Ch [] w w5 := (hc03.trN hc4 z0).trN hc5 z0
  refine loopP_inv (fun st w6 => ∃ (i : Nat) (ds : List Int), st.1 = (i : Int) ∧ i ≤ 8 ∧ RowI w6 k3 .u8 121 ds ∧ ds.length = 10 ∧ (∀ j, j < 2 + i → ds[j]? = some (kN k j : Int)) ∧ Ch [] w w6 ∧ Blk w6 k2 #[.int .u8 0, .int .u8 0, .int .u8 0, .int .u8 0, .int .u8 0, .int .u8 0, .int .u8 0, .int .u8 0, .int .u8 0, .int .u8 0] 121) (fun st _ => 8 - st.1.toNat)
    ⟨0, _, rfl, by omega, r5, rfl, fun j hj => by
      rcases (by omega : j = 0 ∨ j = 1) with rfl | rfl <;> rfl, hc05, hb2'⟩ ?_
  rintro ⟨i0, u⟩ w6 next ⟨i, ds, rfl, hi, r6, hl, hv, hc6, hb6⟩ hnext
  dsimp only
  refine iteB_dec (fun h => ?_) (fun h => ?_)
  · have hlt : i < 8 := by omega
    rw [wrap_i64 (x := 8 * (i : Int)) (by omega), wrap_i64 (x := 56 - 8 * (i : Int)) (by omega), wrap_i64 (x := 2 + (i : Int)) (by omega)]
    refine ⟨by omega, ?_⟩
    have em : min (Int.toNat (56 - 8 * (i : Int))) (IntKind.bits .u64) = 8 * (7 - i) := by
      show min _ 64 = _; omega
    rw [em, fdiv_pow, pow256, wrap_u8_nat]
    have ev : ((UInt8.ofNat (rowU k.2 / 256 ^ (7 - i))).toNat : Int) = (kN k (2 + i) : Int) := by
      rw [UInt8.toNat_ofNat']
      unfold kN
      rw [if_neg (by omega), if_neg (by omega), show 9 - (2 + i) = 7 - i by omega]
    rw [ev]
    refine r6.setA hl.symm (by omega) (by omega) fun w7 hc7 r7 hz7 => ?_
    rw [wrap_i64 (by omega)]
    have et : (2 + (i : Int)).toNat = 2 + i := by omega
    rw [et] at r7
    refine hnext _ _ ⟨i + 1, _, by simp, by omega, r7, by simpa using hl, fun j hj => ?_, hc6.trN hc7 z0, hb6.ch hc7 (nin1' (by omega))⟩ (by simp; omega)
    by_cases hji : 2 + i = j
    · subst hji
      rw [List.getElem?_set_self (by omega)]
    · rw [List.getElem?_set_ne hji]
      exact hv j (by omega)
  · have hi8 : i = 8 := by omega
    subst hi8
    have := ten_of hl fun j hj => hv j (by omega)
    subst this
    refine tenRd r6 (tenIn (show RowI w6 k2 .u8 _ [0, 0, 0, 0, 0, 0, 0, 0, 0, 0] from hb6) fun w7 hc7 r7 => tenRd r7 (hK w7 (hc6.trN hc7 (by omega))))
theorem tenB {k : Ky} {t : TypeId} {w : World} {b : Nat} (h : RowI w b .u8 t [(kN k 0 : Int), kN k 1, kN k 2, kN k 3, kN k 4, kN k 5, kN k 6, kN k 7, kN k 8, kN k 9]) : Rd w ⟨some ⟨b, 0, none⟩, 10, 10⟩ (U8 (kB k)) := by
  have := h.rd
  rw [U8_Is, kB_ints]
  exact this
set_option maxHeartbeats 1000000 in
set_option maxRecDepth 20000 in
theorem kbytes_ok {k : Ky} {w : World} {K : Slc → Int → World → Prop} (hk : kOk k = true)
    (hK : ∀ s w', Own w' 5 1 s (U8 (kB k)) → Ch [] w w' → Ge w.heap.size (blkOf s) → s.l = 10 → K s 0 w') : c_keys_Bytes k.1 k.2 w K := by
  refine sim_keys_Bytes ?_
  unfold sh_keys_Bytes
  refine newB fun k1 w1 hc1 hb1 hk1 hs1 => ?_
  refine ldI_b (o := 0) hb1 rfl (ldI_b (o := 1) hb1 rfl (key_ok fun w2 hc2 => ?_))
  rw [show ((k.1, k.2) : Ky) = k from rfl, hk]
  refine iteB_neg rfl ?_
  replace hb1 := hb1.ch0 hc2
  replace hc2 := hc1.tr hc2
  refine ldI_b (o := 0) hb1 rfl (ldI_b (o := 1) hb1 rfl (form_ok hk fun w3 hc3 => ?_))
  replace hc3 := hc2.tr hc3
  refine newB fun k4 w4 hc4 hb4 hk4 hs4 => ?_
  have z3 := hc3.size
  replace hc4 := hc3.tr hc4
  refine tenIn (show RowI w4 k4 .u8 _ [0, 0, 0, 0, 0, 0, 0, 0, 0, 0] from hb4) fun w10 hc10 r10 => ?_
  have hc5 := hc4.trN hc10 (by omega)
  refine apO TU8 (s := ⟨none, 0, 0⟩) (x := ⟨some ⟨k4, 0, none⟩, 10, 10⟩) (news := U8 (kB k)) (Own.nil _ _ _) (tenB r10) (fun h => by cases h) (U8_one _) (by simp) (by simp) fun s' w11 ho hl hg => ?_
  obtain ⟨hc11, hf⟩ := hg.ch
  have z5 := hc5.size
  refine hK s' w11 (by simpa using ho) (hc5.tr (hc11.mono fun i _ h => by
    have h : some i = blkOf ⟨none, 0, 0⟩ := h
    cases h)) (fun j hj => ?_) (by simpa using hl)
  rcases hf j hj with h | h
  · cases h
  · omega
end Go.Proofs.YtlnhecbgjjglfaaGreat
