/- DcM: reading a batch, plainly; a key out of ten bytes. -/
import Derived.Test.YtlnhecbgjjglfaaDoorKeyB
import Derived.Test.YtlnhecbgjjglfaaDoorMr
set_option linter.unusedVariables false
set_option linter.unusedSimpArgs false
namespace Go.Pl
open Go Go.Sh Go.RowKit Go.Num
def be (l : List UInt8) : Nat := l.foldl (fun a c => a * 256 + c.toNat) 0
theorem be_snoc (l : List UInt8) (c : UInt8) : be (l ++ [c]) = be l * 256 + c.toNat := by simp [be]
theorem be_lt' : ∀ (l : List UInt8) (a : Nat), l.foldl (fun a c => a * 256 + c.toNat) a < (a + 1) * 256 ^ l.length
  | [], a => by simp
  | c :: l, a => by
    have h := be_lt' l (a * 256 + c.toNat)
    have hc := c.toNat_lt
    have h2 : (a * 256 + c.toNat + 1) * 256 ^ l.length ≤ ((a + 1) * 256) * 256 ^ l.length := Nat.mul_le_mul_right _ (by omega)
    rw [List.foldl_cons, List.length_cons, Nat.pow_succ, Nat.mul_comm (256 ^ l.length) 256, ← Nat.mul_assoc]
    omega
theorem be_lt (l : List UInt8) : be l < 256 ^ l.length := by
  have := be_lt' l 0
  simpa [be] using this
theorem getD_lt' {l : List UInt8} {i : Nat} (h : i < l.length) : l.getD i 0 = l[i] := by simp [List.getD, h]
def kDec (b : List UInt8) : Ky := ((((b.getD 0 0).toNat * 256 + (b.getD 1 0).toNat : Nat) : Int), IntKind.i64.wrap (topX ((be (b.drop 2) : Nat) : Int)))
theorem kDec_ok (b : List UInt8) : kOk (kDec b) = true := by
  have h1 := (b.getD 0 0).toNat_lt
  have h2 := (b.getD 1 0).toNat_lt
  unfold kOk kDec
  rw [decide_eq_true_eq]
  dsimp only
  omega
theorem rUpto_err {bs : List UInt8} {at_ most : Nat} {e : Int} (h : (rUpto bs at_ e most).2.2 ≠ 0) : (rUpto bs at_ e most).2.1 = at_ := by
  unfold rUpto at *
  split at h <;> rename_i h0
  · rw [if_pos h0]
  · rw [if_neg h0]
    rcases hd : dnum 0 0 (bs.drop at_) with ⟨n, k, d⟩
    rw [hd] at h
    simp only at h ⊢
    split at h
    · rename_i h1; rw [if_pos h1]
    · rename_i h1
      rw [if_neg h1]
      split at h
      · rename_i h2; rw [if_pos h2]
      · exact absurd rfl h
theorem rRaw_err {bs : List UInt8} {at_ : Nat} {e n : Int} (h : (rRaw bs at_ e n).2.2 ≠ 0) : (rRaw bs at_ e n).2.1 = at_ := by
  unfold rRaw at *
  split at h <;> rename_i h0
  · rw [if_pos h0]
  · rw [if_neg h0]
    split at h <;> rename_i h1
    · rw [if_pos h1]
    · rw [if_neg h1]
      split at h <;> rename_i h2
      · rw [if_pos h2]
      · exact absurd rfl h
theorem rRaw_len {bs : List UInt8} {at_ : Nat} {e : Int} (h : (rRaw bs at_ e 10).2.2 = 0) : (rRaw bs at_ e 10).1.length = 10 := by
  unfold rRaw at *
  split at h <;> rename_i h0
  · exact absurd h h0
  · rw [if_neg h0]
    rw [if_neg (by omega)] at h ⊢
    split at h <;> rename_i h2
    · cases h
    · rw [if_neg h2]
      simp
      omega
/-- Keys in a row: behind what has been read; the keys, the place, the error. -/
def rKeys (bs : List UInt8) : Nat → List Ky → Nat → List Ky × Nat × Int
  | 0, acc, at_ => (acc, at_, 0)
  | n + 1, acc, at_ => if (rRaw bs at_ 0 10).2.2 ≠ 0 then ([], at_, (rRaw bs at_ 0 10).2.2) else
      if 0 < acc.length ∧ kLt (kAt acc (acc.length - 1)) (kDec (rRaw bs at_ 0 10).1) = false then ([], at_, 65) else
        rKeys bs n (acc ++ [kDec (rRaw bs at_ 0 10).1]) (rRaw bs at_ 0 10).2.1
theorem rKeys_succ (bs : List UInt8) (n : Nat) (acc : List Ky) (at_ : Nat) : rKeys bs (n + 1) acc at_ = if (rRaw bs at_ 0 10).2.2 ≠ 0 then ([], at_, (rRaw bs at_ 0 10).2.2) else
      if 0 < acc.length ∧ kLt (kAt acc (acc.length - 1)) (kDec (rRaw bs at_ 0 10).1) = false then ([], at_, 65) else
        rKeys bs n (acc ++ [kDec (rRaw bs at_ 0 10).1]) (rRaw bs at_ 0 10).2.1 := rfl
def rSet (bs : List UInt8) (at_ most : Nat) : List Ky × Nat × Int :=
  if (rUpto bs at_ 0 most).2.2 ≠ 0 then ([], at_, (rUpto bs at_ 0 most).2.2) else rKeys bs (rUpto bs at_ 0 most).1 [] (rUpto bs at_ 0 most).2.1
def rArgs (bs : List UInt8) : Nat → List Int → Nat → List Int × Nat × Int
  | 0, acc, at_ => (acc, at_, 0)
  | n + 1, acc, at_ => if (rUpto bs at_ 0 18446744073709551615).2.2 ≠ 0 then ([], at_, (rUpto bs at_ 0 18446744073709551615).2.2) else
      rArgs bs n (acc ++ [unz (rUpto bs at_ 0 18446744073709551615).1]) (rUpto bs at_ 0 18446744073709551615).2.1
theorem rArgs_succ (bs : List UInt8) (n : Nat) (acc : List Int) (at_ : Nat) : rArgs bs (n + 1) acc at_ = if (rUpto bs at_ 0 18446744073709551615).2.2 ≠ 0 then ([], at_, (rUpto bs at_ 0 18446744073709551615).2.2) else
      rArgs bs n (acc ++ [unz (rUpto bs at_ 0 18446744073709551615).1]) (rUpto bs at_ 0 18446744073709551615).2.1 := rfl
def noTx : Txm := ⟨0, [], [], []⟩
def rTx (bs : List UInt8) (at_ : Nat) : Txm × Nat × Int :=
  if (rUpto bs at_ 0 63).2.2 ≠ 0 then (noTx, at_, (rUpto bs at_ 0 63).2.2) else
  if (rUpto bs (rUpto bs at_ 0 63).2.1 0 16).2.2 ≠ 0 then (noTx, (rUpto bs at_ 0 63).2.1, (rUpto bs (rUpto bs at_ 0 63).2.1 0 16).2.2) else
  match rArgs bs (rUpto bs (rUpto bs at_ 0 63).2.1 0 16).1 [] (rUpto bs (rUpto bs at_ 0 63).2.1 0 16).2.1 with
  | (ar, a2, e2) => if e2 ≠ 0 then (noTx, a2, e2) else
    match rSet bs a2 16 with
    | (rs, a3, e3) => if e3 ≠ 0 then (noTx, a3, e3) else
      match rSet bs a3 16 with
      | (ws, a4, e4) => if e4 ≠ 0 then (noTx, a4, e4) else (⟨((rUpto bs at_ 0 63).1 : Int), ar, rs, ws⟩, a4, 0)
def rTxs (bs : List UInt8) : Nat → List Txm → Nat → List Txm × Nat × Int
  | 0, acc, at_ => (acc, at_, 0)
  | n + 1, acc, at_ => if (rTx bs at_).2.2 ≠ 0 then ([], (rTx bs at_).2.1, (rTx bs at_).2.2) else rTxs bs n (acc ++ [(rTx bs at_).1]) (rTx bs at_).2.1
def decB (bs : List UInt8) : List Txm × Nat × Int :=
  if (rUpto bs 0 0 64).2.2 ≠ 0 then ([], 0, (rUpto bs 0 0 64).2.2) else
    match rTxs bs (rUpto bs 0 0 64).1 [] (rUpto bs 0 0 64).2.1 with
    | (xs, a, e) => if e ≠ 0 then ([], a, e) else if a < bs.length then ([], a, 11) else (xs, 0, 0)
theorem rKeys_len {bs : List UInt8} : ∀ {n : Nat} {acc : List Ky} {at_ : Nat}, (rKeys bs n acc at_).2.2 = 0 → (rKeys bs n acc at_).1.length = acc.length + n
  | 0, _, _, _ => rfl
  | n + 1, acc, at_, h => by
    unfold rKeys at *
    split at h
    · rename_i h0; exact absurd h h0
    · rename_i h0
      rw [if_neg h0]
      split at h
      · cases h
      · rename_i h1
        rw [if_neg h1, rKeys_len h]
        simp; omega
theorem or256 (n c : Nat) (hc : c < 256) : n * 256 ||| c = n * 256 + c := by
  have := Nat.two_pow_add_eq_or_of_lt (i := 8) (b := c) (by omega) n
  rw [show (2 : Nat) ^ 8 = 256 from rfl] at this
  rw [Nat.mul_comm n 256]
  exact this.symm
theorem bOr_i64 {x y : Nat} (hx : x < 65536) (hy : y < 65536) : bOr .i64 (x : Int) (y : Int) = ((x ||| y : Nat) : Int) := by
  have h1 : BitVec.ofInt 64 (x : Int) = BitVec.ofNat 64 x := by simp
  have h2 : BitVec.ofInt 64 (y : Int) = BitVec.ofNat 64 y := by simp
  show IntKind.i64.wrap (((BitVec.ofInt 64 (x : Int) ||| BitVec.ofInt 64 (y : Int)).toNat : Nat) : Int) = _
  rw [h1, h2, BitVec.toNat_or, BitVec.toNat_ofNat, BitVec.toNat_ofNat, Nat.mod_eq_of_lt (by omega), Nat.mod_eq_of_lt (by omega)]
  have : x ||| y < 2 ^ 16 := Nat.or_lt_two_pow (by omega) (by omega)
  rw [wrap_i64 (by omega)]
theorem rUpto_le {bs : List UInt8} {at_ most : Nat} {e : Int} : (rUpto bs at_ e most).1 ≤ most := by
  unfold rUpto
  split
  · simp
  · rcases dnum 0 0 (bs.drop at_) with ⟨n, k, d⟩
    simp only
    split
    · simp
    · split
      · simp
      · dsimp only; omega
end Go.Pl
namespace Go.Proofs.YtlnhecbgjjglfaaDoor
open Go Go.Sh Go.Pl Go.RowKit Go.Num
theorem U8_get {w : World} {s : Slc} {bs : List UInt8} (h : Rd w s (U8 bs)) {i : Int} {j : Nat} (hi : i = (j : Int)) (hj : j < bs.length) {K : Int → Prop} (hK : K ((bs.getD j 0).toNat : Int)) : idxP s.a s.l i 1 fun a => ldI .u8 a w K := by
  subst hi
  refine h.idx (by omega) (by simp; omega) fun ad had => ?_
  rw [Int.toNat_natCast, U8_at bs hj] at had
  refine ldI_of had ?_
  rw [getD_lt' hj] at hK
  exact hK
set_option maxHeartbeats 1000000 in
theorem fromB_ok {s : Slc} {bs : List UInt8} {w : World} {K : Int → Int → Int → World → Prop} (hs : Rd w s (U8 bs)) (hl : bs.length = 10) (hK : ∀ w', Ch [] w w' → K (kDec bs).1 (kDec bs).2 0 w') : c_keys_FromBytes s w K := by
  refine sim_keys_FromBytes ?_
  unfold sh_keys_FromBytes
  have ls := hs.len
  rw [U8_length] at ls
  refine newB fun k w1 hc1 hb1 hk1 hs1 => ?_
  replace hs := hs.ch0 hc1
  refine iteB_dec (fun h => by omega) (fun _ => iteB_dec (fun h => by omega) (fun _ => ?_))
  refine hs.sl (l := 2) (u := 10) rfl (by simp; omega) (by omega) (by simp; omega) fun p hp _ => ?_
  rw [U8_part, List.take_of_length_le (by simp; omega)] at hp
  have hl2 : (bs.drop 2).length = 8 := by simp; omega
  have fin : ∀ (w3 : World), Ch [] w1 w3 → idxP s.a s.l 0 1 fun a21 => ldI .u8 a21 w3.drew fun n22 => shP 8 (idxP s.a s.l 1 1 fun a23 => ldI .u8 a23 w3.drew fun n24 => stP (⟨k, 0, none⟩ : Addr) (.int .i64 (bOr .i64 (IntKind.i64.wrap ((IntKind.i64.wrap n22) * 2 ^ (min (Int.toNat 8) (IntKind.bits .i64)))) (IntKind.i64.wrap n24))) w3.drew fun w25 => stP ((⟨k, 0, none⟩ : Addr).add 1) (.int .i64 (IntKind.i64.wrap (bXor .u64 ((be (bs.drop 2) : Nat) : Int) 9223372036854775808))) w25 fun w26 => ldI .i64 (⟨k, 0, none⟩ : Addr) w26 fun n27 => ldI .i64 ((⟨k, 0, none⟩ : Addr).add 1) w26 fun n28 => K n27 n28 0 w26) := fun w3 hc3 => by
    have hcd := hc3.tr (Ch.drew w3)
    have h0 := (bs.getD 0 0).toNat_lt
    have h1 := (bs.getD 1 0).toNat_lt
    refine U8_get (hs.ch0 hcd) (j := 0) rfl (by omega) ⟨by omega, ?_⟩
    refine U8_get (hs.ch0 hcd) (j := 1) rfl (by omega) ?_
    have em : min (Int.toNat 8) (IntKind.bits .i64) = 8 := rfl
    have e : bOr .i64 (IntKind.i64.wrap ((IntKind.i64.wrap ((bs.getD 0 0).toNat : Int)) * 2 ^ (min (Int.toNat 8) (IntKind.bits .i64)))) (IntKind.i64.wrap ((bs.getD 1 0).toNat : Int)) = (kDec bs).1 := by
      rw [em, wrap_i64 (x := ((bs.getD 0 0).toNat : Int)) (by omega), wrap_i64 (x := ((bs.getD 1 0).toNat : Int)) (by omega), wrap_i64 (by omega)]
      have e2 : ((bs.getD 0 0).toNat : Int) * 2 ^ 8 = (((bs.getD 0 0).toNat * 256 : Nat) : Int) := by omega
      rw [e2, bOr_i64 (by omega) (by omega), or256 _ _ (by omega)]
      rfl
    rw [e]
    refine stB (o := 0) (hb1.ch0 hcd) (by simp) fun w4 hc4 hb4 _ => stB hb4 (by simp) fun w5 hc5 hb5 _ => ?_
    refine ldI_b (o := 0) hb5 rfl (ldI_b (o := 1) hb5 rfl ?_)
    exact hK w5 (((hc1.tr hcd).trN hc4 (by omega)).trN hc5 (by omega))
  refine loopP_inv (fun st w2 => w2 = w1 ∧ ∃ i : Nat, st.2.1 = (i : Int) ∧ i ≤ 8 ∧ st.1 = ((be ((bs.drop 2).take i) : Nat) : Int)) (fun st _ => 8 - st.2.1.toNat) ⟨rfl, 0, rfl, by omega, rfl⟩ ?_
  rintro ⟨r0, i0, u⟩ w2 next ⟨rfl, i, rfl, hi, hr0⟩ hnext
  dsimp only at hr0 ⊢
  subst hr0
  refine iteB_dec (fun h => ?_) (fun h => ?_)
  · have hlt : i < (bs.drop 2).length := by omega
    refine U8_get (s := ⟨p, 10 - 2, s.c - 2⟩) hp (j := i) rfl hlt ⟨by omega, ?_⟩
    have hb := be_lt ((bs.drop 2).take i)
    rw [List.length_take, Nat.min_eq_left (by omega)] at hb
    have hb7 : (256 : Nat) ^ i ≤ 256 ^ 7 := Nat.pow_le_pow_right (by omega) (by omega)
    have hc := ((bs.drop 2).getD i 0).toNat_lt
    have em : min (Int.toNat 8) (IntKind.bits .u64) = 8 := rfl
    have e : bOr .u64 (IntKind.u64.wrap (((be ((bs.drop 2).take i) : Nat) : Int) * 2 ^ (min (Int.toNat 8) (IntKind.bits .u64)))) (IntKind.u64.wrap (((bs.drop 2).getD i 0).toNat : Int)) = ((be ((bs.drop 2).take (i + 1)) : Nat) : Int) := by
      rw [List.take_succ_eq_append_getElem hlt, be_snoc, em, getD_lt' hlt]
      rw [getD_lt' hlt] at hc
      generalize be ((bs.drop 2).take i) = m at *
      have e2 : (m : Int) * 2 ^ 8 = ((m * 256 : Nat) : Int) := by omega
      rw [e2, wrap_u64 (by omega), wrap_u64 (by omega), bOr_u64 (by omega) (by omega), or256 _ _ (by omega)]
    rw [e, wrap_i64 (by omega)]
    exact hnext _ _ ⟨rfl, i + 1, by simp, by omega, rfl⟩ (by simp; omega)
  · have hi8 : i = 8 := by omega
    subst hi8
    rw [List.take_of_length_le (by omega)]
    exact fin w2 (Ch.refl _ _)
set_option maxHeartbeats 1000000 in
theorem rfromB_ok {s : Slc} {bs : List UInt8} {w : World} {K : Int → Int → Int → World → Prop} (hs : Rd w s (U8 bs)) (hl : bs.length = 10) (hK : ∀ w', Ch [] w w' → K (kDec bs).1 (kDec bs).2 0 w') : c_preluderef02_FromBytes s w K := by
  refine sim_preluderef02_FromBytes ?_
  unfold sh_preluderef02_FromBytes
  have ls := hs.len
  rw [U8_length] at ls
  refine newB fun k w1 hc1 hb1 hk1 hs1 => ?_
  replace hs := hs.ch0 hc1
  refine iteB_dec (fun h => by omega) (fun _ => iteB_dec (fun h => by omega) (fun _ => ?_))
  have hl2 : (bs.drop 2).length = 8 := by simp; omega
  refine loopP_inv (fun st w2 => w2 = w1 ∧ ∃ i : Nat, st.2.1 = (i : Int) + 2 ∧ i ≤ 8 ∧ st.1 = ((be ((bs.drop 2).take i) : Nat) : Int)) (fun st _ => 10 - st.2.1.toNat) ⟨rfl, 0, rfl, by omega, rfl⟩ ?_
  rintro ⟨r0, i0, u⟩ w2 next ⟨rfl, i, hi0, hi, hr0⟩ hnext
  dsimp only at hr0 hi0 ⊢
  subst hr0
  subst hi0
  refine iteB_dec (fun h => ?_) (fun h => ?_)
  · have hlt : i < (bs.drop 2).length := by omega
    refine U8_get hs (j := i + 2) (by omega) (by omega) ?_
    have hb := be_lt ((bs.drop 2).take i)
    rw [List.length_take, Nat.min_eq_left (by omega)] at hb
    have hb7 : (256 : Nat) ^ i ≤ 256 ^ 7 := Nat.pow_le_pow_right (by omega) (by omega)
    have hc := (bs.getD (i + 2) 0).toNat_lt
    have e : IntKind.u64.wrap ((IntKind.u64.wrap (((be ((bs.drop 2).take i) : Nat) : Int) * 256)) + (IntKind.u64.wrap ((bs.getD (i + 2) 0).toNat : Int))) = ((be ((bs.drop 2).take (i + 1)) : Nat) : Int) := by
      have hg : (bs.drop 2)[i] = bs.getD (i + 2) 0 := by
        rw [List.getElem_drop, getD_lt' (by omega)]
        congr 1; omega
      rw [List.take_succ_eq_append_getElem hlt, be_snoc, hg]
      generalize be ((bs.drop 2).take i) = m at *
      rw [wrap_u64 (x := (m : Int) * 256) (by omega), wrap_u64 (x := ((bs.getD (i + 2) 0).toNat : Int)) (by omega), wrap_u64 (by omega)]
      omega
    rw [e, wrap_i64 (by omega)]
    exact hnext _ _ ⟨rfl, i + 1, by simp; omega, by omega, rfl⟩ (by simp; omega)
  · have hi8 : i = 8 := by omega
    subst hi8
    rw [List.take_of_length_le (by omega)]
    have hcd := Ch.drew w2
    have h0 := (bs.getD 0 0).toNat_lt
    have h1 := (bs.getD 1 0).toNat_lt
    refine U8_get (hs.ch0 hcd) (j := 0) rfl (by omega) ?_
    refine U8_get (hs.ch0 hcd) (j := 1) rfl (by omega) ?_
    have e : IntKind.i64.wrap ((IntKind.i64.wrap ((IntKind.i64.wrap ((bs.getD 0 0).toNat : Int)) * 256)) + (IntKind.i64.wrap ((bs.getD 1 0).toNat : Int))) = (kDec bs).1 := by
      rw [wrap_i64 (x := ((bs.getD 0 0).toNat : Int)) (by omega), wrap_i64 (x := ((bs.getD 1 0).toNat : Int)) (by omega), wrap_i64 (x := ((bs.getD 0 0).toNat : Int) * 256) (by omega), wrap_i64 (by omega)]
      show _ = (((bs.getD 0 0).toNat * 256 + (bs.getD 1 0).toNat : Nat) : Int)
      omega
    rw [e]
    refine stB (o := 0) (hb1.ch0 hcd) (by simp) fun w4 hc4 hb4 _ => stB hb4 (by simp) fun w5 hc5 hb5 _ => ?_
    refine ldI_b (o := 0) hb5 rfl (ldI_b (o := 1) hb5 rfl ?_)
    exact hK w5 (((hc1.tr hcd).trN hc4 (by omega)).trN hc5 (by omega))
end Go.Proofs.YtlnhecbgjjglfaaDoor
