/- DecF: what has been read is well-formed. -/
import Derived.Test.YtlnhecbgjjglfaaDoorBDecR
import Derived.Test.YtlnhecbgjjglfaaDoorBEncL
set_option linter.unusedVariables false
set_option linter.unusedSimpArgs false
namespace Go.Pl
open Go Go.Sh Go.RowKit Go.Num
theorem kAt_left {l r : List Ky} {j : Nat} (h : j < l.length) : kAt (l ++ r) j = kAt l j := by
  unfold kAt; rw [List.getElem?_append_left h]
theorem kAt_last (l : List Ky) (k : Ky) : kAt (l ++ [k]) l.length = k := by
  unfold kAt; rw [List.getElem?_append_right (Nat.le_refl _), Nat.sub_self]; rfl
theorem rises_snoc {l : List Ky} {k : Ky} (h : rises l = true) (hk : kOk k = true) (hl : ¬ (0 < l.length ∧ kLt (kAt l (l.length - 1)) k = false)) : rises (l ++ [k]) = true := by
  have h' := of_decide_eq_true h
  refine decide_eq_true fun j hj => ?_
  rw [List.length_append, List.length_singleton] at hj
  rcases Nat.lt_or_ge j l.length with g | g
  · obtain ⟨h1, h2⟩ := h' j g
    refine ⟨by rw [kAt_left g]; exact h1, fun h0 => ?_⟩
    rw [kAt_left g, kAt_left (by omega)]; exact h2 h0
  · have : j = l.length := by omega
    subst this
    refine ⟨by rw [kAt_last]; exact hk, fun h0 => ?_⟩
    rw [kAt_last, kAt_left (by omega)]
    cases hc : kLt (kAt l (l.length - 1)) k with
    | true => rfl
    | false => exact absurd ⟨by omega, hc⟩ hl
theorem kDec_64 (b : List UInt8) : (-9223372036854775808 ≤ (kDec b).1 ∧ (kDec b).1 ≤ 9223372036854775807) ∧ (-9223372036854775808 ≤ (kDec b).2 ∧ (kDec b).2 ≤ 9223372036854775807) := by
  have h1 := kDec_ok b
  simp only [kOk, decide_eq_true_eq] at h1
  refine ⟨by omega, ?_⟩
  unfold kDec
  dsimp only
  simp [IntKind.wrap, IntKind.signed, IntKind.bits]
  omega
theorem rKeys_ok {bs : List UInt8} : ∀ {n : Nat} {acc : List Ky} {at_ : Nat}, (rKeys bs n acc at_).2.2 = 0 → rises acc = true → K64 acc → rises (rKeys bs n acc at_).1 = true ∧ K64 (rKeys bs n acc at_).1
  | 0, _, _, _, h1, h2 => ⟨h1, h2⟩
  | n + 1, acc, at_, h, h1, h2 => by
    rw [rKeys_succ] at h ⊢
    split at h
    · rename_i h0; exact absurd h h0
    · rename_i h0
      rw [if_neg h0]
      split at h
      · cases h
      · rename_i h3
        rw [if_neg h3]
        refine rKeys_ok h (rises_snoc h1 (kDec_ok _) h3) fun k hk => ?_
        rcases List.mem_append.1 hk with hk | hk
        · exact h2 k hk
        · simp at hk; subst hk; exact kDec_64 _
theorem rSet_ok {bs : List UInt8} {at_ most : Nat} (h : (rSet bs at_ most).2.2 = 0) : rises (rSet bs at_ most).1 = true ∧ K64 (rSet bs at_ most).1 ∧ (rSet bs at_ most).1.length ≤ most := by
  have hle := @rUpto_le bs at_ most 0
  unfold rSet at h ⊢
  split at h
  · rename_i h0; exact absurd h h0
  · rename_i h0
    rw [if_neg h0]
    obtain ⟨h1, h2⟩ := rKeys_ok h (by decide) (fun k hk => by cases hk)
    refine ⟨h1, h2, ?_⟩
    rw [rKeys_len h]
    simpa using hle
theorem unz_64 {u : Nat} (h : u < 18446744073709551616) : -9223372036854775808 ≤ unz u ∧ unz u ≤ 9223372036854775807 := by
  unfold unz
  split <;> omega
theorem rArgs_ok {bs : List UInt8} : ∀ {n : Nat} {acc : List Int} {at_ : Nat}, (rArgs bs n acc at_).2.2 = 0 → I64s acc → I64s (rArgs bs n acc at_).1 ∧ (rArgs bs n acc at_).1.length = acc.length + n
  | 0, _, _, _, h2 => ⟨h2, rfl⟩
  | n + 1, acc, at_, h, h2 => by
    rw [rArgs_succ] at h ⊢
    split at h
    · rename_i h0; exact absurd h h0
    · rename_i h0
      rw [if_neg h0]
      obtain ⟨h3, h4⟩ := rArgs_ok h (fun a ha => by
        rcases List.mem_append.1 ha with ha | ha
        · exact h2 a ha
        · simp at ha; subst ha; exact unz_64 Go.Proofs.YtlnhecbgjjglfaaDoor.rUpto_lt)
      refine ⟨h3, ?_⟩
      rw [h4]; simp; omega
theorem rTx_ok {bs : List UInt8} {at_ : Nat} (h : (rTx bs at_).2.2 = 0) : Frm (rTx bs at_).1 ∧ T64 (rTx bs at_).1 := by
  have l1 := @rUpto_le bs at_ 63 0
  have l2 := @rUpto_le bs (rUpto bs at_ 0 63).2.1 16 0
  unfold rTx at h ⊢
  split at h
  · rename_i h0; exact absurd h h0
  rename_i h0
  rw [if_neg h0]
  split at h
  · rename_i h1; exact absurd h h1
  rename_i h1
  rw [if_neg h1]
  generalize (rUpto bs at_ 0 63).1 = p at *
  have ra := @rArgs_ok bs (rUpto bs (rUpto bs at_ 0 63).2.1 0 16).1 [] (rUpto bs (rUpto bs at_ 0 63).2.1 0 16).2.1
  generalize rArgs bs (rUpto bs (rUpto bs at_ 0 63).2.1 0 16).1 [] (rUpto bs (rUpto bs at_ 0 63).2.1 0 16).2.1 = q at *
  obtain ⟨ar, a2, e2⟩ := q
  dsimp only at h ra ⊢
  split at h
  · rename_i h2; exact absurd h h2
  rename_i h2
  rw [if_neg h2]
  obtain ⟨ra1, ra2⟩ := ra (by omega) (fun a ha => by cases ha)
  have rr := @rSet_ok bs a2 16
  generalize rSet bs a2 16 = q at *
  obtain ⟨rs, a3, e3⟩ := q
  dsimp only at h rr ⊢
  split at h
  · rename_i h3; exact absurd h h3
  rename_i h3
  rw [if_neg h3]
  obtain ⟨rr1, rr2, rr3⟩ := rr (by omega)
  have rw_ := @rSet_ok bs a3 16
  generalize rSet bs a3 16 = q at *
  obtain ⟨ws, a4, e4⟩ := q
  dsimp only at h rw_ ⊢
  split at h
  · rename_i h4; exact absurd h h4
  rename_i h4
  rw [if_neg h4]
  obtain ⟨rw1, rw2, rw3⟩ := rw_ (by omega)
  simp only [List.length_nil, Nat.zero_add] at ra2
  exact ⟨⟨by dsimp only; omega, by dsimp only; omega, by dsimp only; omega, rr3, rw3, rr1, rw1⟩, ⟨by dsimp only; omega, ra1, rr2, rw2⟩⟩
theorem rTxs_succ' (bs : List UInt8) (n : Nat) (acc : List Txm) (at_ : Nat) : rTxs bs (n + 1) acc at_ = if (rTx bs at_).2.2 ≠ 0 then ([], (rTx bs at_).2.1, (rTx bs at_).2.2) else rTxs bs n (acc ++ [(rTx bs at_).1]) (rTx bs at_).2.1 := rfl
theorem rTxs_ok {bs : List UInt8} : ∀ {n : Nat} {acc : List Txm} {at_ : Nat}, (rTxs bs n acc at_).2.2 = 0 → (∀ x ∈ acc, Frm x ∧ T64 x) → (∀ x ∈ (rTxs bs n acc at_).1, Frm x ∧ T64 x) ∧ (rTxs bs n acc at_).1.length = acc.length + n
  | 0, _, _, _, h2 => ⟨h2, rfl⟩
  | n + 1, acc, at_, h, h2 => by
    rw [rTxs_succ'] at h ⊢
    split at h
    · rename_i h0; exact absurd h h0
    · rename_i h0
      rw [if_neg h0]
      obtain ⟨h3, h4⟩ := rTxs_ok h (fun x hx => by
        rcases List.mem_append.1 hx with hx | hx
        · exact h2 x hx
        · simp at hx; subst hx; exact rTx_ok (by omega))
      refine ⟨h3, ?_⟩
      rw [h4]; simp; omega
theorem decB_ok (bs : List UInt8) : (decB bs).1.length ≤ 64 ∧ ∀ x ∈ (decB bs).1, Frm x ∧ T64 x := by
  have l1 := @rUpto_le bs 0 64 0
  unfold decB
  split
  · exact ⟨by simp, by simp⟩
  have h := @rTxs_ok bs (rUpto bs 0 0 64).1 [] (rUpto bs 0 0 64).2.1
  generalize rTxs bs (rUpto bs 0 0 64).1 [] (rUpto bs 0 0 64).2.1 = q at *
  obtain ⟨xs, a, e⟩ := q
  dsimp only at h ⊢
  split
  · exact ⟨by simp, by simp⟩
  · rename_i h0
    obtain ⟨h1, h2⟩ := h (by omega) (by simp)
    split
    · exact ⟨by simp, by simp⟩
    · simp only [List.length_nil, Nat.zero_add] at h2
      exact ⟨by dsimp only; omega, h1⟩
end Go.Pl
