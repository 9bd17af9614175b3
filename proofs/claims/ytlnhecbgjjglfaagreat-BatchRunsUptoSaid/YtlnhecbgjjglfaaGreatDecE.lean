/- DecE: writing and reading a batch are each other's inverse; what follows helps nothing. -/
import Derived.Test.YtlnhecbgjjglfaaGreatDecF
set_option linter.unusedVariables false
set_option linter.unusedSimpArgs false
namespace Go.Pl
open Go Go.Sh Go.RowKit Go.Num
/-! ### A key -/
def digs : Nat → Nat → List UInt8
  | _, 0 => []
  | u, n + 1 => digs (u / 256) n ++ [UInt8.ofNat (u % 256)]
theorem digs_len : ∀ (n u : Nat), (digs u n).length = n
  | 0, _ => rfl
  | n + 1, u => by simp [digs, digs_len n]
theorem be_digs : ∀ (n u : Nat), be (digs u n) = u % 256 ^ n
  | 0, u => by simp [digs, be, Nat.mod_one]
  | n + 1, u => by
    rw [digs, be_snoc, be_digs n, UInt8.toNat_ofNat']
    have h : u % 256 ^ (n + 1) = u % 256 + 256 * (u / 256 % 256 ^ n) := by rw [Nat.pow_succ, Nat.mul_comm, Nat.mod_mul]
    rw [h]; omega
theorem digs_be : ∀ (n : Nat) (l : List UInt8), l.length = n → digs (be l) n = l
  | 0, l, h => by
    have : l = [] := List.eq_nil_of_length_eq_zero h
    subst this; rfl
  | n + 1, l, h => by
    obtain ⟨r, c, rfl⟩ : ∃ r c, l = r ++ [c] := ⟨l.dropLast, l.getLast (by intro h0; rw [h0] at h; cases h), (List.dropLast_concat_getLast _).symm⟩
    have hr : r.length = n := by simpa using h
    have hc := c.toNat_lt
    rw [be_snoc, digs, show (be r * 256 + c.toNat) / 256 = be r by omega, show (be r * 256 + c.toNat) % 256 = c.toNat by omega, digs_be n r hr]
    simp
theorem kB_eq (k : Ky) : kB k = UInt8.ofNat (k.1.toNat / 256 % 256) :: UInt8.ofNat (k.1.toNat % 256) :: digs (rowU k.2) 8 := by
  have e : ∀ u : Nat, digs u 8 = [UInt8.ofNat (u / 256 ^ 7 % 256), UInt8.ofNat (u / 256 ^ 6 % 256), UInt8.ofNat (u / 256 ^ 5 % 256), UInt8.ofNat (u / 256 ^ 4 % 256), UInt8.ofNat (u / 256 ^ 3 % 256), UInt8.ofNat (u / 256 ^ 2 % 256), UInt8.ofNat (u / 256 ^ 1 % 256), UInt8.ofNat (u / 256 ^ 0 % 256)] := fun u => by
    simp [digs, Nat.div_div_eq_div_mul]
  rw [e]
  rfl
theorem kDec_kB {k : Ky} (hk : kOk k = true) (hr : -9223372036854775808 ≤ k.2 ∧ k.2 ≤ 9223372036854775807) : kDec (kB k) = k := by
  have hk' : 0 ≤ k.1 ∧ k.1 ≤ 65535 := by simpa [kOk] using hk
  rw [kB_eq]
  unfold kDec
  obtain ⟨t, r⟩ := k
  dsimp only at hk' hr ⊢
  have hu := rowU_lt r
  have e1 : be (List.drop 2 (UInt8.ofNat (t.toNat / 256 % 256) :: UInt8.ofNat (t.toNat % 256) :: digs (rowU r) 8)) = rowU r := by
    show be (digs (rowU r) 8) = _
    rw [be_digs, Nat.mod_eq_of_lt (by simpa using hu)]
  rw [e1]
  refine Prod.ext ?_ ?_
  · simp only [List.getD_cons_zero, List.getD_cons_succ, UInt8.toNat_ofNat']
    omega
  · dsimp only
    have ht : topX ((rowU r : Nat) : Int) = IntKind.u64.wrap r := by
      have h1 := bXor_range (IntKind.u64.wrap r) 9223372036854775808
      have h2 : ((rowU r : Nat) : Int) = topX (IntKind.u64.wrap r) := (rowU_eq r).symm
      rw [h2, topX_topX]
      simp [IntKind.wrap, IntKind.signed, IntKind.bits]; omega
    rw [ht]
    simp [IntKind.wrap, IntKind.signed, IntKind.bits]; omega
theorem kB_kDec {b : List UInt8} (h : b.length = 10) : kB (kDec b) = b := by
  obtain ⟨c0, c1, r, rfl⟩ : ∃ c0 c1 r, b = c0 :: c1 :: r := by
    match b, h with
    | c0 :: c1 :: r, _ => exact ⟨c0, c1, r, rfl⟩
  have hr : r.length = 8 := by simpa using h
  rw [kB_eq]
  have h0 := c0.toNat_lt
  have h1 := c1.toNat_lt
  have hb := be_lt r
  rw [hr] at hb
  have hb' : be r < 18446744073709551616 := by simpa using hb
  have e2 : rowU (kDec (c0 :: c1 :: r)).2 = be r := by
    show rowU (IntKind.i64.wrap (topX ((be r : Nat) : Int))) = be r
    have h1 := bXor_range ((be r : Nat) : Int) 9223372036854775808
    have hw : IntKind.u64.wrap (IntKind.i64.wrap (topX ((be r : Nat) : Int))) = topX ((be r : Nat) : Int) := by
      unfold topX
      generalize bXor .u64 ((be r : Nat) : Int) 9223372036854775808 = y at *
      simp [IntKind.wrap, IntKind.signed, IntKind.bits]; omega
    unfold rowU
    rw [hw, topX_topX (by omega)]
    omega
  rw [e2, digs_be 8 r hr]
  have e1 : (kDec (c0 :: c1 :: r)).1.toNat = c0.toNat * 256 + c1.toNat := by
    show ((((c0 :: c1 :: r).getD 0 0).toNat * 256 + ((c0 :: c1 :: r).getD 1 0).toNat : Nat) : Int).toNat = _
    rw [Int.toNat_natCast]
    simp [List.getD]
  rw [e1, show (c0.toNat * 256 + c1.toNat) / 256 % 256 = c0.toNat by omega, show (c0.toNat * 256 + c1.toNat) % 256 = c1.toNat by omega]
  simp
/-! ### What was written is read -/
theorem drop_add {bs l r : List UInt8} {at_ : Nat} (h : bs.drop at_ = l ++ r) : bs.drop (at_ + l.length) = r := by
  rw [← List.drop_drop, h, List.drop_left]
theorem drop_le {bs l r : List UInt8} {at_ : Nat} (h : bs.drop at_ = l ++ r) (ha : at_ ≤ bs.length) : at_ + l.length ≤ bs.length := by
  have := congrArg List.length h
  simp at this; omega
theorem rUpto_enc {bs r : List UInt8} {at_ n most : Nat} (h : bs.drop at_ = encU n ++ r) (hn : n ≤ most) (hm : n < 18446744073709551616) : rUpto bs at_ 0 most = (n, at_ + (encU n).length, 0) := by
  unfold rUpto
  rw [if_neg (by simp), h, dnum_encU n r hm]
  simp only
  rw [if_neg (by simp), if_neg (by omega)]
theorem rRaw_enc {bs r b : List UInt8} {at_ : Nat} (h : bs.drop at_ = b ++ r) (hb : b.length = 10) (ha : at_ ≤ bs.length) : rRaw bs at_ 0 10 = (b, at_ + 10, 0) := by
  have hl := drop_le h ha
  unfold rRaw
  rw [if_neg (by simp), if_neg (by omega), if_neg (by omega), h]
  simp only [show (10 : Int).toNat = 10 from rfl]
  rw [← hb, List.take_left]
theorem rises_mid {acc l : List Ky} {k : Ky} (h : rises (acc ++ k :: l) = true) : ¬ (0 < acc.length ∧ kLt (kAt acc (acc.length - 1)) k = false) := by
  intro ⟨h0, h1⟩
  have h' := (of_decide_eq_true h) acc.length (by simp)
  have h2 := h'.2 (by omega)
  rw [kAt_left (by omega)] at h2
  have : kAt (acc ++ k :: l) acc.length = k := by
    unfold kAt; rw [List.getElem?_append_right (Nat.le_refl _), Nat.sub_self]; rfl
  rw [this, h1] at h2
  cases h2
theorem rKeys_enc {bs r : List UInt8} : ∀ {l acc : List Ky} {at_ : Nat}, bs.drop at_ = l.flatMap kB ++ r → at_ ≤ bs.length → rises (acc ++ l) = true → K64 l → rKeys bs l.length acc at_ = (acc ++ l, at_ + (l.flatMap kB).length, 0)
  | [], acc, at_, _, _, _, _ => by simp [rKeys]
  | k :: l, acc, at_, h, ha, hr, h64 => by
    rw [List.flatMap_cons, List.append_assoc] at h
    have hraw := rRaw_enc h (kB_length k) ha
    have hk : kOk k = true := rises_ok_at hr k (by simp)
    rw [List.length_cons, rKeys_succ, hraw]
    dsimp only
    rw [kDec_kB hk (h64 k (List.mem_cons_self ..)).2, if_neg (by simp), if_neg (rises_mid hr)]
    have h2 := drop_add h
    rw [kB_length] at h2
    have hle := drop_le h ha
    rw [kB_length] at hle
    rw [rKeys_enc h2 hle (by rw [List.append_assoc]; exact hr) fun x hx => h64 x (List.mem_cons_of_mem _ hx)]
    simp
    omega
theorem rSet_enc {bs r : List UInt8} {l : List Ky} {at_ most : Nat} (h : bs.drop at_ = setB l ++ r) (ha : at_ ≤ bs.length) (hr : rises l = true) (h64 : K64 l) (hl : l.length ≤ most) (hm : l.length < 18446744073709551616) : rSet bs at_ most = (l, at_ + (setB l).length, 0) := by
  unfold setB at h
  rw [List.append_assoc] at h
  unfold rSet
  rw [rUpto_enc h hl hm]
  dsimp only
  rw [if_neg (by simp), rKeys_enc (acc := []) (drop_add h) (drop_le h ha) (show rises ([] ++ l) = true from hr) h64]
  simp [setB]
  omega
theorem rArgs_enc {bs r : List UInt8} : ∀ {l acc : List Int} {at_ : Nat}, bs.drop at_ = argsB l ++ r → I64s l → rArgs bs l.length acc at_ = (acc ++ l, at_ + (argsB l).length, 0)
  | [], acc, at_, _, _ => by simp [rArgs, argsB]
  | a :: l, acc, at_, h, h64 => by
    unfold argsB at h
    rw [List.flatMap_cons, List.append_assoc] at h
    have hz := zig_lt (h64 a (List.mem_cons_self ..))
    have hu := rUpto_enc h (most := 18446744073709551615) (by omega) hz
    rw [List.length_cons, rArgs_succ, hu]
    dsimp only
    rw [if_neg (by simp), unz_zig, rArgs_enc (drop_add h) fun x hx => h64 x (List.mem_cons_of_mem _ hx)]
    simp [argsB]
    omega
theorem rTx_enc {bs r : List UInt8} {x : Txm} {at_ : Nat} (h : bs.drop at_ = txB x ++ r) (ha : at_ ≤ bs.length) (hf : Frm x) (h64 : T64 x) : rTx bs at_ = (x, at_ + (txB x).length, 0) := by
  obtain ⟨f1, f2, f3, f4, f5, f6, f7⟩ := hf
  unfold txB at h
  simp only [List.append_assoc] at h
  have u1 := rUpto_enc h (most := 63) (by omega) (by omega)
  have h2 := drop_add h
  have l2 := drop_le h ha
  have u2 := rUpto_enc h2 (most := 16) (by omega) (by omega)
  have h3 := drop_add h2
  have l3 := drop_le h2 l2
  have u3 := rArgs_enc (acc := []) h3 h64.a
  have h4 := drop_add h3
  have l4 := drop_le h3 l3
  have u4 := rSet_enc h4 l4 f6 h64.r (most := 16) f4 (by omega)
  have h5 := drop_add h4
  have l5 := drop_le h4 l4
  have u5 := rSet_enc h5 l5 f7 h64.w (most := 16) f5 (by omega)
  unfold rTx
  rw [u1]
  dsimp only
  rw [if_neg (by simp), u2]
  dsimp only
  rw [if_neg (by simp), u3]
  dsimp only
  rw [if_neg (by simp), u4]
  dsimp only
  rw [if_neg (by simp), u5]
  dsimp only
  rw [if_neg (by simp)]
  refine Prod.ext ?_ (Prod.ext ?_ rfl)
  · show (⟨((x.proc.toNat : Nat) : Int), [] ++ x.args, x.reads, x.writes⟩ : Txm) = x
    rw [List.nil_append, Int.toNat_of_nonneg f1]
  · simp only [txB, List.length_append]; omega
theorem rTxs_enc {bs r : List UInt8} : ∀ {l acc : List Txm} {at_ : Nat}, bs.drop at_ = l.flatMap txB ++ r → at_ ≤ bs.length → (∀ x ∈ l, Frm x ∧ T64 x) → rTxs bs l.length acc at_ = (acc ++ l, at_ + (l.flatMap txB).length, 0)
  | [], acc, at_, _, _, _ => by simp [rTxs]
  | x :: l, acc, at_, h, ha, hx => by
    rw [List.flatMap_cons, List.append_assoc] at h
    have u := rTx_enc h ha (hx x (List.mem_cons_self ..)).1 (hx x (List.mem_cons_self ..)).2
    rw [List.length_cons, rTxs_succ', u]
    dsimp only
    rw [if_neg (by simp), rTxs_enc (drop_add h) (drop_le h ha) fun y hy => hx y (List.mem_cons_of_mem _ hy)]
    simp
    omega
theorem decB_enc {xs : List Txm} (hn : xs.length ≤ 64) (hx : ∀ x ∈ xs, Frm x ∧ T64 x) (t : List UInt8) : decB (batB xs ++ t) = if t = [] then (xs, 0, 0) else ([], (batB xs).length, 11) := by
  have h : (batB xs ++ t).drop 0 = encU xs.length ++ (xs.flatMap txB ++ t) := by simp [batB]
  have u := rUpto_enc h (most := 64) hn (by omega)
  have u2 := rTxs_enc (acc := []) (drop_add h) (drop_le h (Nat.zero_le _)) hx
  unfold decB
  rw [u]
  dsimp only
  rw [if_neg (by simp), u2]
  dsimp only
  rw [if_neg (by simp)]
  have hl : (batB xs).length = (encU xs.length).length + (xs.flatMap txB).length := by unfold batB; rw [List.length_append]
  have hlt : (batB xs ++ t).length = (encU xs.length).length + (xs.flatMap txB).length + t.length := by rw [List.length_append, hl]
  cases t with
  | nil =>
    rw [List.length_nil] at hlt
    rw [if_neg (by omega), if_pos rfl, List.nil_append]
  | cons c t =>
    rw [List.length_cons] at hlt
    rw [if_pos (by omega), if_neg (by simp), hl, Nat.zero_add]
/-! ### What was read is what is written -/
theorem rUpto_form {bs : List UInt8} {at_ n a most : Nat} (h : rUpto bs at_ 0 most = (n, a, 0)) (ha : at_ ≤ bs.length) : bs.drop at_ = encU n ++ bs.drop a ∧ a ≤ bs.length := by
  unfold rUpto at h
  rw [if_neg (by simp)] at h
  rcases hd : dnum 0 0 (bs.drop at_) with ⟨v, k, d⟩
  rw [hd] at h
  simp only at h
  split at h
  · rename_i h0
    simp only [Prod.mk.injEq] at h
    omega
  · rename_i h0
    have : d = 0 := by omega
    subst this
    obtain ⟨g1, g2, g3, g4⟩ := dnum_ok hd
    split at h
    · simp at h
    · simp only [Prod.mk.injEq] at h
      obtain ⟨rfl, rfl, _⟩ := h
      simp only [List.length_drop] at g3
      refine ⟨?_, by omega⟩
      rw [← List.drop_drop, ← g1, List.take_append_drop]
theorem rRaw_form {bs b : List UInt8} {at_ a : Nat} (h : rRaw bs at_ 0 10 = (b, a, 0)) (ha : at_ ≤ bs.length) : bs.drop at_ = b ++ bs.drop a ∧ a ≤ bs.length ∧ b.length = 10 := by
  have hl := @rRaw_len bs at_ 0
  rw [h] at hl
  unfold rRaw at h
  rw [if_neg (by simp), if_neg (by omega)] at h
  split at h
  · simp at h
  · rename_i h0
    simp only [Prod.mk.injEq, show (10 : Int).toNat = 10 from rfl] at h
    obtain ⟨rfl, rfl, _⟩ := h
    refine ⟨?_, by omega, hl rfl⟩
    rw [← List.drop_drop, List.take_append_drop]
theorem rKeys_form {bs : List UInt8} : ∀ {n : Nat} {acc l : List Ky} {at_ a : Nat}, rKeys bs n acc at_ = (l, a, 0) → at_ ≤ bs.length → ∃ l', l = acc ++ l' ∧ l'.length = n ∧ bs.drop at_ = l'.flatMap kB ++ bs.drop a ∧ a ≤ bs.length
  | 0, acc, l, at_, a, h, ha => by
    simp only [rKeys, Prod.mk.injEq] at h
    obtain ⟨rfl, rfl, _⟩ := h
    exact ⟨[], by simp, rfl, by simp, ha⟩
  | n + 1, acc, l, at_, a, h, ha => by
    rw [rKeys_succ] at h
    have hf := @rRaw_form bs (rRaw bs at_ 0 10).1 at_ (rRaw bs at_ 0 10).2.1
    generalize rRaw bs at_ 0 10 = q at *
    obtain ⟨b, a1, e1⟩ := q
    dsimp only at h hf
    split at h
    · rename_i h0; simp only [Prod.mk.injEq] at h; omega
    · rename_i h0
      have : e1 = 0 := by omega
      subst this
      split at h
      · simp at h
      · obtain ⟨g1, g2, g3⟩ := hf rfl ha
        obtain ⟨l', r1, r2, r3, r4⟩ := rKeys_form h g2
        refine ⟨kDec b :: l', by rw [r1]; simp, by simp [r2], ?_, r4⟩
        rw [g1, r3, List.flatMap_cons, kB_kDec g3, List.append_assoc]
theorem rSet_form {bs : List UInt8} {l : List Ky} {at_ a most : Nat} (h : rSet bs at_ most = (l, a, 0)) (ha : at_ ≤ bs.length) : bs.drop at_ = setB l ++ bs.drop a ∧ a ≤ bs.length := by
  unfold rSet at h
  have hf := @rUpto_form bs at_ (rUpto bs at_ 0 most).1 (rUpto bs at_ 0 most).2.1 most
  generalize rUpto bs at_ 0 most = q at *
  obtain ⟨n, a1, e1⟩ := q
  dsimp only at h hf
  split at h
  · rename_i h0; simp only [Prod.mk.injEq] at h; omega
  · rename_i h0
    have : e1 = 0 := by omega
    subst this
    obtain ⟨g1, g2⟩ := hf rfl ha
    obtain ⟨l', r1, r2, r3, r4⟩ := rKeys_form h g2
    rw [List.nil_append] at r1
    subst r1
    refine ⟨?_, r4⟩
    unfold setB
    rw [g1, r3, r2, List.append_assoc]
theorem rArgs_form {bs : List UInt8} : ∀ {n : Nat} {acc l : List Int} {at_ a : Nat}, rArgs bs n acc at_ = (l, a, 0) → at_ ≤ bs.length → ∃ l', l = acc ++ l' ∧ l'.length = n ∧ bs.drop at_ = argsB l' ++ bs.drop a ∧ a ≤ bs.length
  | 0, acc, l, at_, a, h, ha => by
    simp only [rArgs, Prod.mk.injEq] at h
    obtain ⟨rfl, rfl, _⟩ := h
    exact ⟨[], by simp, rfl, by simp [argsB], ha⟩
  | n + 1, acc, l, at_, a, h, ha => by
    rw [rArgs_succ] at h
    have hf := @rUpto_form bs at_ (rUpto bs at_ 0 18446744073709551615).1 (rUpto bs at_ 0 18446744073709551615).2.1 18446744073709551615
    generalize rUpto bs at_ 0 18446744073709551615 = q at *
    obtain ⟨u, a1, e1⟩ := q
    dsimp only at h hf
    split at h
    · rename_i h0; simp only [Prod.mk.injEq] at h; omega
    · rename_i h0
      have : e1 = 0 := by omega
      subst this
      obtain ⟨g1, g2⟩ := hf rfl ha
      obtain ⟨l', r1, r2, r3, r4⟩ := rArgs_form h g2
      refine ⟨unz u :: l', by rw [r1]; simp, by simp [r2], ?_, r4⟩
      rw [g1, r3]
      unfold argsB
      rw [List.flatMap_cons, zig_unz, List.append_assoc]
theorem rTx_form {bs : List UInt8} {x : Txm} {at_ a : Nat} (h : rTx bs at_ = (x, a, 0)) (ha : at_ ≤ bs.length) : bs.drop at_ = txB x ++ bs.drop a ∧ a ≤ bs.length := by
  unfold rTx at h
  have hf := @rUpto_form bs at_ (rUpto bs at_ 0 63).1 (rUpto bs at_ 0 63).2.1 63
  generalize rUpto bs at_ 0 63 = q at *
  obtain ⟨p, a1, e1⟩ := q
  dsimp only at h hf
  split at h
  · rename_i h0; simp only [Prod.mk.injEq] at h; omega
  rename_i h0
  have : e1 = 0 := by omega
  subst this
  obtain ⟨g1, g2⟩ := hf rfl ha
  have hf2 := @rUpto_form bs a1 (rUpto bs a1 0 16).1 (rUpto bs a1 0 16).2.1 16
  generalize rUpto bs a1 0 16 = q at *
  obtain ⟨n, a2, e2⟩ := q
  dsimp only at h hf2
  split at h
  · rename_i h0; simp only [Prod.mk.injEq] at h; omega
  rename_i h0
  have : e2 = 0 := by omega
  subst this
  obtain ⟨g3, g4⟩ := hf2 rfl g2
  have hf3 := @rArgs_form bs n [] (rArgs bs n [] a2).1 a2 (rArgs bs n [] a2).2.1
  generalize rArgs bs n [] a2 = q at *
  obtain ⟨ar, a3, e3⟩ := q
  dsimp only at h hf3
  split at h
  · rename_i h0; simp only [Prod.mk.injEq] at h; omega
  rename_i h0
  have : e3 = 0 := by omega
  subst this
  obtain ⟨l', r1, r2, r3, r4⟩ := hf3 rfl g4
  rw [List.nil_append] at r1
  subst r1
  have hf4 := @rSet_form bs (rSet bs a3 16).1 a3 (rSet bs a3 16).2.1 16
  generalize rSet bs a3 16 = q at *
  obtain ⟨rs, a4, e4⟩ := q
  dsimp only at h hf4
  split at h
  · rename_i h0; simp only [Prod.mk.injEq] at h; omega
  rename_i h0
  have : e4 = 0 := by omega
  subst this
  obtain ⟨g5, g6⟩ := hf4 rfl r4
  have hf5 := @rSet_form bs (rSet bs a4 16).1 a4 (rSet bs a4 16).2.1 16
  generalize rSet bs a4 16 = q at *
  obtain ⟨ws, a5, e5⟩ := q
  dsimp only at h hf5
  split at h
  · rename_i h0; simp only [Prod.mk.injEq] at h; omega
  rename_i h0
  have : e5 = 0 := by omega
  subst this
  obtain ⟨g7, g8⟩ := hf5 rfl g6
  simp only [Prod.mk.injEq, and_true] at h
  obtain ⟨rfl, rfl⟩ := h
  refine ⟨?_, g8⟩
  unfold txB
  rw [g1, g3, r3, g5, g7, ← r2]
  simp
theorem rTxs_form {bs : List UInt8} : ∀ {n : Nat} {acc l : List Txm} {at_ a : Nat}, rTxs bs n acc at_ = (l, a, 0) → at_ ≤ bs.length → ∃ l', l = acc ++ l' ∧ l'.length = n ∧ bs.drop at_ = l'.flatMap txB ++ bs.drop a ∧ a ≤ bs.length
  | 0, acc, l, at_, a, h, ha => by
    simp only [rTxs, Prod.mk.injEq] at h
    obtain ⟨rfl, rfl, _⟩ := h
    exact ⟨[], by simp, rfl, by simp, ha⟩
  | n + 1, acc, l, at_, a, h, ha => by
    rw [rTxs_succ'] at h
    have hf := @rTx_form bs (rTx bs at_).1 at_ (rTx bs at_).2.1
    generalize rTx bs at_ = q at *
    obtain ⟨x, a1, e1⟩ := q
    dsimp only at h hf
    split at h
    · rename_i h0; simp only [Prod.mk.injEq] at h; omega
    · rename_i h0
      have : e1 = 0 := by omega
      subst this
      obtain ⟨g1, g2⟩ := hf rfl ha
      obtain ⟨l', r1, r2, r3, r4⟩ := rTxs_form h g2
      refine ⟨x :: l', by rw [r1]; simp, by simp [r2], ?_, r4⟩
      rw [g1, r3, List.flatMap_cons, List.append_assoc]
theorem decB_form {bs : List UInt8} (h : (decB bs).2.2 = 0) : batB (decB bs).1 = bs ∧ (decB bs).2.1 = 0 := by
  unfold decB at h ⊢
  have hf := @rUpto_form bs 0 (rUpto bs 0 0 64).1 (rUpto bs 0 0 64).2.1 64
  generalize rUpto bs 0 0 64 = q at *
  obtain ⟨n, a1, e1⟩ := q
  dsimp only at h hf ⊢
  split at h
  · rename_i h0; exact absurd h h0
  rename_i h0
  rw [if_neg h0]
  have : e1 = 0 := by omega
  subst this
  obtain ⟨g1, g2⟩ := hf rfl (Nat.zero_le _)
  have hf2 := @rTxs_form bs n [] (rTxs bs n [] a1).1 a1 (rTxs bs n [] a1).2.1
  generalize rTxs bs n [] a1 = q at *
  obtain ⟨xs, a, e⟩ := q
  dsimp only at h hf2 ⊢
  split at h
  · rename_i h0; exact absurd h h0
  rename_i h0
  rw [if_neg h0]
  have : e = 0 := by omega
  subst this
  obtain ⟨l', r1, r2, r3, r4⟩ := hf2 rfl g2
  rw [List.nil_append] at r1
  subst r1
  split at h
  · simp at h
  · rename_i h1
    rw [if_neg h1]
    refine ⟨?_, rfl⟩
    have : bs.drop a = [] := List.drop_eq_nil_of_le (by omega)
    rw [this, List.append_nil] at r3
    rw [List.drop_zero] at g1
    unfold batB
    dsimp only
    rw [r2, ← r3]
    exact g1.symm
/-! ### What follows -/
theorem dnum_ext : ∀ (l : List UInt8) (i n : Nat) (t : List UInt8), (dnum i n l).2.2 ≠ 10 → dnum i n (l ++ t) = dnum i n l
  | [], i, n, t, h => by simp [dnum] at h
  | c :: r, i, n, t, h => by
    rw [List.cons_append]
    unfold dnum at h ⊢
    split
    · rfl
    · rename_i h0
      rw [if_neg h0] at h
      split
      · rfl
      · rename_i h1
        rw [if_neg h1] at h
        exact dnum_ext r _ _ t h
theorem rUpto_ext {bs t : List UInt8} {at_ most : Nat} {e : Int} (ha : at_ ≤ bs.length) (h : (rUpto bs at_ e most).2.2 ≠ 10) : rUpto (bs ++ t) at_ e most = rUpto bs at_ e most := by
  unfold rUpto at h ⊢
  split
  · rfl
  · rename_i h0
    rw [if_neg h0] at h
    rw [List.drop_append_of_le_length ha]
    have hx := dnum_ext (bs.drop at_) 0 0 t
    rcases hd : dnum 0 0 (bs.drop at_) with ⟨v, k, d⟩
    rw [hd] at h hx
    simp only at h hx
    by_cases h10 : d = 10
    · subst h10
      rw [if_pos (by simp)] at h
      exact absurd rfl h
    · rw [hx h10]
theorem rRaw_ext {bs t : List UInt8} {at_ : Nat} (ha : at_ ≤ bs.length) (h : (rRaw bs at_ 0 10).2.2 ≠ 10) : rRaw (bs ++ t) at_ 0 10 = rRaw bs at_ 0 10 := by
  unfold rRaw at h ⊢
  simp only [show (10 : Int).toNat = 10 from rfl] at h ⊢
  rw [if_neg (by simp), if_neg (by omega)] at h ⊢
  split at h
  · exact absurd rfl h
  · rename_i h0
    have hl : (bs ++ t).length = bs.length + t.length := by simp
    rw [if_neg (by omega), if_neg (by simp), if_neg (by omega), if_neg h0, List.drop_append_of_le_length ha, List.take_append_of_le_length (by simp; omega)]
theorem rKeys_at {bs : List UInt8} : ∀ {n : Nat} {acc : List Ky} {at_ : Nat}, at_ ≤ bs.length → (rKeys bs n acc at_).2.1 ≤ bs.length
  | 0, _, _, h => h
  | n + 1, acc, at_, h => by
    rw [rKeys_succ]
    split
    · exact h
    · split
      · exact h
      · exact rKeys_at (rRaw_at h)
theorem rSet_at {bs : List UInt8} {at_ most : Nat} (h : at_ ≤ bs.length) : (rSet bs at_ most).2.1 ≤ bs.length := by
  unfold rSet
  split
  · exact h
  · exact rKeys_at (rUpto_at h)
theorem rArgs_at {bs : List UInt8} : ∀ {n : Nat} {acc : List Int} {at_ : Nat}, at_ ≤ bs.length → (rArgs bs n acc at_).2.1 ≤ bs.length
  | 0, _, _, h => h
  | n + 1, acc, at_, h => by
    rw [rArgs_succ]
    split
    · exact h
    · exact rArgs_at (rUpto_at h)
theorem rTx_at {bs : List UInt8} {at_ : Nat} (h : at_ ≤ bs.length) : (rTx bs at_).2.1 ≤ bs.length := by
  have h1 : (rUpto bs at_ 0 63).2.1 ≤ bs.length := rUpto_at h
  have h2 : (rUpto bs (rUpto bs at_ 0 63).2.1 0 16).2.1 ≤ bs.length := rUpto_at h1
  unfold rTx
  split
  · exact h
  split
  · exact h1
  have h3 := @rArgs_at bs (rUpto bs (rUpto bs at_ 0 63).2.1 0 16).1 [] _ h2
  generalize rArgs bs (rUpto bs (rUpto bs at_ 0 63).2.1 0 16).1 [] (rUpto bs (rUpto bs at_ 0 63).2.1 0 16).2.1 = q at *
  obtain ⟨ar, a3, e3⟩ := q
  dsimp only at h3 ⊢
  split
  · exact h3
  have h4 := @rSet_at bs a3 16 h3
  generalize rSet bs a3 16 = q at *
  obtain ⟨rs, a4, e4⟩ := q
  dsimp only at h4 ⊢
  split
  · exact h4
  have h5 := @rSet_at bs a4 16 h4
  generalize rSet bs a4 16 = q at *
  obtain ⟨ws, a5, e5⟩ := q
  dsimp only at h5 ⊢
  split <;> exact h5
theorem rTxs_at {bs : List UInt8} : ∀ {n : Nat} {acc : List Txm} {at_ : Nat}, at_ ≤ bs.length → (rTxs bs n acc at_).2.1 ≤ bs.length
  | 0, _, _, h => h
  | n + 1, acc, at_, h => by
    rw [rTxs_succ']
    split
    · exact rTx_at h
    · exact rTxs_at (rTx_at h)
theorem decB_at (bs : List UInt8) : (decB bs).2.1 ≤ bs.length := by
  unfold decB
  split
  · exact Nat.zero_le _
  have h := @rTxs_at bs (rUpto bs 0 0 64).1 [] (rUpto bs 0 0 64).2.1 (rUpto_at (Nat.zero_le _))
  generalize rTxs bs (rUpto bs 0 0 64).1 [] (rUpto bs 0 0 64).2.1 = q at *
  obtain ⟨xs, a, e⟩ := q
  dsimp only at h ⊢
  split
  · exact h
  · split
    · exact h
    · exact Nat.zero_le _
theorem rKeys_ext {bs t : List UInt8} : ∀ {n : Nat} {acc : List Ky} {at_ : Nat}, at_ ≤ bs.length → (rKeys bs n acc at_).2.2 ≠ 10 → rKeys (bs ++ t) n acc at_ = rKeys bs n acc at_
  | 0, _, _, _, _ => rfl
  | n + 1, acc, at_, ha, h => by
    rw [rKeys_succ] at h
    have h10 : (rRaw bs at_ 0 10).2.2 ≠ 10 := fun h0 => by
      rw [if_pos (by omega)] at h; exact h h0
    rw [rKeys_succ, rKeys_succ, rRaw_ext ha h10]
    split
    · rfl
    · rename_i h0
      rw [if_neg h0] at h
      split
      · rfl
      · rename_i h1
        rw [if_neg h1] at h
        exact rKeys_ext (rRaw_at ha) h
theorem rSet_ext {bs t : List UInt8} {at_ most : Nat} (ha : at_ ≤ bs.length) (h : (rSet bs at_ most).2.2 ≠ 10) : rSet (bs ++ t) at_ most = rSet bs at_ most := by
  unfold rSet at h ⊢
  have h10 : (rUpto bs at_ 0 most).2.2 ≠ 10 := fun h0 => by
    rw [if_pos (by omega)] at h; exact h h0
  rw [rUpto_ext ha h10]
  split
  · rfl
  · rename_i h0
    rw [if_neg h0] at h
    exact rKeys_ext (rUpto_at ha) h
theorem rArgs_ext {bs t : List UInt8} : ∀ {n : Nat} {acc : List Int} {at_ : Nat}, at_ ≤ bs.length → (rArgs bs n acc at_).2.2 ≠ 10 → rArgs (bs ++ t) n acc at_ = rArgs bs n acc at_
  | 0, _, _, _, _ => rfl
  | n + 1, acc, at_, ha, h => by
    rw [rArgs_succ] at h
    have h10 : (rUpto bs at_ 0 18446744073709551615).2.2 ≠ 10 := fun h0 => by
      rw [if_pos (by omega)] at h; exact h h0
    rw [rArgs_succ, rArgs_succ, rUpto_ext ha h10]
    split
    · rfl
    · rename_i h0
      rw [if_neg h0] at h
      exact rArgs_ext (rUpto_at ha) h
theorem rTx_ext {bs t : List UInt8} {at_ : Nat} (ha : at_ ≤ bs.length) (h : (rTx bs at_).2.2 ≠ 10) : rTx (bs ++ t) at_ = rTx bs at_ := by
  unfold rTx at h ⊢
  have h1 : (rUpto bs at_ 0 63).2.2 ≠ 10 := fun h0 => by
    rw [if_pos (by omega)] at h; exact h h0
  rw [rUpto_ext ha h1]
  have a1 : (rUpto bs at_ 0 63).2.1 ≤ bs.length := rUpto_at ha
  generalize rUpto bs at_ 0 63 = q at *
  obtain ⟨p, b1, e1⟩ := q
  dsimp only at h h1 a1 ⊢
  split
  · rfl
  rename_i h0
  rw [if_neg h0] at h
  have h2 : (rUpto bs b1 0 16).2.2 ≠ 10 := fun h0 => by
    rw [if_pos (by omega)] at h; exact h h0
  rw [rUpto_ext a1 h2]
  have a2 : (rUpto bs b1 0 16).2.1 ≤ bs.length := rUpto_at a1
  generalize rUpto bs b1 0 16 = q at *
  obtain ⟨n, b2, e2⟩ := q
  dsimp only at h h2 a2 ⊢
  split
  · rfl
  rename_i h0
  rw [if_neg h0] at h
  have x3 := @rArgs_ext bs t n [] b2 a2
  have a3 := @rArgs_at bs n [] b2 a2
  generalize rArgs bs n [] b2 = q at *
  obtain ⟨ar, b3, e3⟩ := q
  dsimp only at h x3 a3
  rw [x3 (fun h0 => by rw [if_pos (by omega)] at h; exact h h0)]
  dsimp only
  split
  · rfl
  rename_i h0
  rw [if_neg h0] at h
  have x4 := @rSet_ext bs t b3 16 a3
  have a4 := @rSet_at bs b3 16 a3
  generalize rSet bs b3 16 = q at *
  obtain ⟨rs, b4, e4⟩ := q
  dsimp only at h x4 a4
  rw [x4 (fun h0 => by rw [if_pos (by omega)] at h; exact h h0)]
  dsimp only
  split
  · rfl
  rename_i h0
  rw [if_neg h0] at h
  have x5 := @rSet_ext bs t b4 16 a4
  generalize rSet bs b4 16 = q at *
  obtain ⟨ws, b5, e5⟩ := q
  dsimp only at h x5
  rw [x5 (fun h0 => by rw [if_pos (by omega)] at h; exact h h0)]
theorem rTxs_ext {bs t : List UInt8} : ∀ {n : Nat} {acc : List Txm} {at_ : Nat}, at_ ≤ bs.length → (rTxs bs n acc at_).2.2 ≠ 10 → rTxs (bs ++ t) n acc at_ = rTxs bs n acc at_
  | 0, _, _, _, _ => rfl
  | n + 1, acc, at_, ha, h => by
    rw [rTxs_succ'] at h
    have h10 : (rTx bs at_).2.2 ≠ 10 := fun h0 => by
      rw [if_pos (by omega)] at h; exact h h0
    rw [rTxs_succ', rTxs_succ', rTx_ext ha h10]
    split
    · rfl
    · rename_i h0
      rw [if_neg h0] at h
      exact rTxs_ext (rTx_at ha) h
theorem decB_ext {bs t : List UInt8} (h0 : (decB bs).2.2 ≠ 0) (h10 : (decB bs).2.2 ≠ 10) : decB (bs ++ t) = decB bs := by
  unfold decB at h0 h10 ⊢
  have h1 : (rUpto bs 0 0 64).2.2 ≠ 10 := fun h => by
    rw [if_pos (by omega)] at h10; exact h10 h
  rw [rUpto_ext (Nat.zero_le _) h1]
  have a1 : (rUpto bs 0 0 64).2.1 ≤ bs.length := rUpto_at (Nat.zero_le _)
  generalize rUpto bs 0 0 64 = q at *
  obtain ⟨n, b1, e1⟩ := q
  dsimp only at h0 h10 h1 a1 ⊢
  split
  · rfl
  rename_i hn
  rw [if_neg hn] at h0 h10
  have x2 := @rTxs_ext bs t n [] b1 a1
  have a2 := @rTxs_at bs n [] b1 a1
  generalize rTxs bs n [] b1 = q at *
  obtain ⟨xs, a, e⟩ := q
  dsimp only at h0 h10 x2 a2
  rw [x2 (fun h => by rw [if_pos (by omega)] at h10; exact h10 h)]
  dsimp only
  split
  · rfl
  rename_i he
  rw [if_neg he] at h0
  split at h0
  · rename_i hlt
    rw [if_pos hlt, if_pos (by simp; omega)]
  · exact absurd rfl h0
theorem decB_nil {bs : List UInt8} (h : (decB bs).2.2 ≠ 0) : (decB bs).1 = [] := by
  unfold decB at h ⊢
  split
  · rfl
  rename_i hn
  rw [if_neg hn] at h
  generalize rTxs bs (rUpto bs 0 0 64).1 [] (rUpto bs 0 0 64).2.1 = q at *
  obtain ⟨xs, a, e⟩ := q
  dsimp only at h ⊢
  split
  · rfl
  rename_i he
  rw [if_neg he] at h
  split
  · rfl
  · rename_i h1
    rw [if_neg h1] at h; exact absurd rfl h
theorem decB_cut {bs t : List UInt8} (h : (decB (bs ++ t)).2.2 = 0) (ht : t ≠ []) : (decB bs).2.2 = 10 := by
  by_cases h0 : (decB bs).2.2 = 0
  · obtain ⟨g1, g2⟩ := decB_form h0
    obtain ⟨k1, k2⟩ := decB_ok bs
    have := decB_enc k1 k2 t
    rw [g1, if_neg ht] at this
    rw [this] at h
    cases h
  · by_cases h10 : (decB bs).2.2 = 10
    · exact h10
    · rw [decB_ext h0 h10] at h; exact absurd h h0
/-- Of a batch's bytes. -/
theorem encT_ok {xs : List Txm} (h : (encT xs).2 = 0) : (encT xs).1 = batB xs ∧ xs.length ≤ 64 ∧ ∀ x ∈ xs, Frm x := by
  unfold encT at h ⊢
  split
  · rename_i h0
    exact ⟨rfl, chk_zero h0⟩
  · rename_i h0
    rw [if_neg h0] at h; exact absurd h h0
theorem encT_of {xs : List Txm} (hn : xs.length ≤ 64) (hx : ∀ x ∈ xs, Frm x) : encT xs = (batB xs, 0) := by
  unfold encT
  rw [chk_of hn hx, if_pos rfl]
theorem encT_dec {bs : List UInt8} (h : (decB bs).2.2 = 0) : encT (decB bs).1 = (bs, 0) := by
  obtain ⟨k1, k2⟩ := decB_ok bs
  rw [encT_of k1 fun x hx => (k2 x hx).1, (decB_form h).1]
end Go.Pl
