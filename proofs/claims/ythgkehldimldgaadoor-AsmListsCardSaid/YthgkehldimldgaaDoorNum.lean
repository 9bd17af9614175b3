/- Num: numbers as bytes, plainly: writing, reading, that each is the other's inverse. -/
set_option linter.unusedVariables false
set_option linter.unusedSimpArgs false
namespace Go.Num
def encU (n : Nat) : List UInt8 := if n < 128 then [UInt8.ofNat n] else UInt8.ofNat (n % 128 + 128) :: encU (n / 128)
termination_by n
decreasing_by omega
theorem encU_low {n : Nat} (h : n < 128) : encU n = [UInt8.ofNat n] := by rw [encU, if_pos h]
theorem encU_high {n : Nat} (h : ¬ n < 128) : encU n = UInt8.ofNat (n % 128 + 128) :: encU (n / 128) := by rw [encU, if_neg h]
theorem encU_pos (n : Nat) : 1 ≤ (encU n).length := by
  rw [encU]; split <;> simp
def zig (n : Int) : Nat := if 0 ≤ n then (2 * n).toNat else (2 * (-1 - n) + 1).toNat
def unz (u : Nat) : Int := if u % 2 = 0 then ((u / 2 : Nat) : Int) else -1 - ((u / 2 : Nat) : Int)
theorem unz_zig (n : Int) : unz (zig n) = n := by
  unfold unz zig
  split <;> split <;> omega
theorem zig_unz (u : Nat) : zig (unz u) = u := by
  unfold unz zig
  split <;> split <;> omega
theorem zig_lt {n : Int} (h : -9223372036854775808 ≤ n ∧ n ≤ 9223372036854775807) : zig n < 18446744073709551616 := by
  unfold zig
  split <;> omega
/-- The number at the front of some bytes, behind i bytes of it: the number, how many bytes, what is wrong. -/
def dnum : Nat → Nat → List UInt8 → Nat × Nat × Int
  | _, _, [] => (0, 0, 10)
  | i, n, c :: r => if (i = 9 ∧ c.toNat > 1) ∨ (i > 0 ∧ c.toNat = 0) then (0, 0, 11) else
      if c.toNat < 128 then (n + c.toNat % 128 * 2 ^ (7 * i), i + 1, 0) else dnum (i + 1) (n + c.toNat % 128 * 2 ^ (7 * i)) r
theorem encU_len : ∀ (k m : Nat), m < 2 ^ (7 * (k + 1)) → (encU m).length ≤ k + 1 := by
  intro k
  induction k with
  | zero => intro m h; rw [encU_low (by simpa using h)]; simp
  | succ k ih =>
    intro m h
    by_cases hm : m < 128
    · rw [encU_low hm]; simp
    · rw [encU_high hm, List.length_cons]
      have h2 : m / 128 < 2 ^ (7 * (k + 1)) := by
        rw [Nat.div_lt_iff_lt_mul (by omega)]
        have : 2 ^ (7 * (k + 1)) * 128 = 2 ^ (7 * (k + 1 + 1)) := by rw [show 7 * (k + 1 + 1) = 7 * (k + 1) + 7 by omega, Nat.pow_add]
        omega
      have := ih (m / 128) h2
      omega
theorem encU_ten (n : Nat) (h : n < 18446744073709551616) : (encU n).length ≤ 10 := encU_len 9 n (Nat.lt_of_lt_of_le h (by decide))
/-- What was written is read back. -/
theorem dnum_encU' : ∀ (i n m : Nat) (r : List UInt8), i ≤ 9 → (i = 0 ∨ 0 < m) → m * 2 ^ (7 * i) < 18446744073709551616 →
    dnum i n (encU m ++ r) = (n + m * 2 ^ (7 * i), i + (encU m).length, 0) := by
  intro i n m
  induction m using Nat.strongRecOn generalizing i n with
  | _ m ih =>
    intro r hi h0 hm
    by_cases h : m < 128
    · rw [encU_low h]
      have e : (UInt8.ofNat m).toNat = m := by rw [UInt8.toNat_ofNat']; omega
      simp only [List.cons_append, List.nil_append, dnum, e, List.length_cons, List.length_nil]
      rw [if_neg, if_pos h, Nat.mod_eq_of_lt h]
      intro hc
      rcases hc with ⟨h9, h1⟩ | ⟨hp, hz⟩
      · subst h9; omega
      · omega
    · rw [encU_high h]
      have e : (UInt8.ofNat (m % 128 + 128)).toNat = m % 128 + 128 := by rw [UInt8.toNat_ofNat']; omega
      have hi8 : i ≤ 8 := by
        rcases Nat.lt_or_ge i 9 with h9 | h9
        · omega
        · have : i = 9 := by omega
          subst this; omega
      simp only [List.cons_append, dnum, e]
      rw [if_neg (by intro hc; rcases hc with ⟨h9, h1⟩ | ⟨hp, hz⟩ <;> omega), if_neg (by omega)]
      have hp : 2 ^ (7 * (i + 1)) = 128 * 2 ^ (7 * i) := by rw [show 7 * (i + 1) = 7 + 7 * i by omega, Nat.pow_add]
      have hdm : m / 128 * (128 * 2 ^ (7 * i)) ≤ m * 2 ^ (7 * i) := by
        rw [← Nat.mul_assoc]; exact Nat.mul_le_mul_right _ (by omega)
      have := ih (m / 128) (by omega) (i + 1) (n + (m % 128 + 128) % 128 * 2 ^ (7 * i)) r (by omega) (.inr (by omega)) (by rw [hp]; omega)
      rw [this, hp]
      have e2 : (m % 128 + 128) % 128 = m % 128 := by omega
      have e3 : m % 128 * 2 ^ (7 * i) + m / 128 * (128 * 2 ^ (7 * i)) = m * 2 ^ (7 * i) := by
        rw [← Nat.mul_assoc, ← Nat.add_mul]
        congr 1; omega
      rw [e2]
      simp only [List.length_cons, Prod.mk.injEq, and_true]
      omega
theorem dnum_encU (m : Nat) (r : List UInt8) (h : m < 18446744073709551616) : dnum 0 0 (encU m ++ r) = (m, (encU m).length, 0) := by
  have := dnum_encU' 0 0 m r (by omega) (.inl rfl) (by simpa using h)
  simpa using this
/-- What was read is what is written. -/
theorem dnum_ok' : ∀ (bs : List UInt8) (i n v k : Nat), i ≤ 9 → dnum i n bs = (v, k, 0) → ∃ m, v = n + m * 2 ^ (7 * i) ∧ i ≤ k ∧ bs.take (k - i) = encU m ∧ k - i ≤ bs.length ∧ (i = 0 ∨ 0 < m) ∧ m * 2 ^ (7 * i) < 18446744073709551616 := by
  intro bs
  induction bs with
  | nil => intro i n v k hi h; simp [dnum] at h
  | cons c r ih =>
    intro i n v k hi h
    have hc := c.toNat_lt
    have hofc : UInt8.ofNat c.toNat = c := by simp
    simp only [dnum] at h
    split at h
    · simp at h
    · rename_i hno
      have hno1 : ¬ (i = 9 ∧ c.toNat > 1) := fun h => hno (.inl h)
      have hno2 : ¬ (i > 0 ∧ c.toNat = 0) := fun h => hno (.inr h)
      have hpow : i ≤ 8 → 2 ^ (7 * i) ≤ 2 ^ 56 := fun h8 => Nat.pow_le_pow_right (by omega) (by omega)
      split at h
      · rename_i hlow
        simp only [Prod.mk.injEq, and_true] at h
        obtain ⟨rfl, rfl⟩ := h
        refine ⟨c.toNat, by rw [Nat.mod_eq_of_lt hlow], by omega, ?_, by simp, by omega, ?_⟩
        · rw [encU_low hlow, hofc]; simp
        · rcases Nat.lt_or_ge i 9 with h9 | h9
          · have h1 : c.toNat * 2 ^ (7 * i) ≤ 127 * 2 ^ 56 := Nat.mul_le_mul (by omega) (hpow (by omega))
            omega
          · have : i = 9 := by omega
            subst this
            have h1 : c.toNat * 2 ^ (7 * 9) ≤ 1 * 2 ^ (7 * 9) := Nat.mul_le_mul_right _ (by omega)
            omega
      · rename_i hhigh
        have hi8 : i ≤ 8 := by omega
        obtain ⟨m, hv, hk, ht, hl, hm0, hm⟩ := ih (i + 1) _ v k (by omega) h
        have hm1 : 0 < m := by omega
        have hp : 2 ^ (7 * (i + 1)) = 128 * 2 ^ (7 * i) := by rw [show 7 * (i + 1) = 7 + 7 * i by omega, Nat.pow_add]
        have hsum : c.toNat % 128 * 2 ^ (7 * i) + m * (128 * 2 ^ (7 * i)) = (c.toNat % 128 + m * 128) * 2 ^ (7 * i) := by
          rw [Nat.add_mul, Nat.mul_assoc]
        refine ⟨c.toNat % 128 + m * 128, by rw [hv, hp, ← hsum]; omega, by omega, ?_, by simp; omega, .inr (by omega), ?_⟩
        · have hk1 : k - i = (k - (i + 1)) + 1 := by omega
          rw [hk1, List.take_succ_cons, ht]
          conv => rhs; rw [encU_high (by omega)]
          have h1 : (c.toNat % 128 + m * 128) % 128 + 128 = c.toNat := by omega
          have h2 : (c.toNat % 128 + m * 128) / 128 = m := by omega
          rw [h1, h2, hofc]
        · rw [hp] at hm
          have h1 : (c.toNat % 128) * 2 ^ (7 * i) ≤ 127 * 2 ^ (7 * i) := Nat.mul_le_mul_right _ (by omega)
          have hpos : 0 < 2 ^ (7 * i) := Nat.pow_pos (by omega)
          have hd : 18446744073709551616 = 2 ^ (64 - 7 * i) * 2 ^ (7 * i) := by
            rw [← Nat.pow_add, show 64 - 7 * i + 7 * i = 64 by omega]
          have hd2 : 2 ^ (64 - 7 * i) = 128 * 2 ^ (57 - 7 * i) := by rw [show 64 - 7 * i = 7 + (57 - 7 * i) by omega, Nat.pow_add]
          have hlt : m < 2 ^ (57 - 7 * i) := by
            have h3 : m * 128 * 2 ^ (7 * i) < 128 * 2 ^ (57 - 7 * i) * 2 ^ (7 * i) := by
              rw [← hd2, ← hd, Nat.mul_assoc]; exact hm
            have := Nat.lt_of_mul_lt_mul_right h3
            omega
          rw [hd, hd2]
          exact Nat.mul_lt_mul_of_pos_right (by omega) hpos
theorem dnum_ok {bs : List UInt8} {v k : Nat} (h : dnum 0 0 bs = (v, k, 0)) : bs.take k = encU v ∧ k = (encU v).length ∧ k ≤ bs.length ∧ v < 18446744073709551616 := by
  obtain ⟨m, hv, hk, ht, hl, _, hm⟩ := dnum_ok' bs 0 0 v k (by omega) h
  simp only [Nat.mul_zero, Nat.pow_zero, Nat.mul_one, Nat.zero_add, Nat.sub_zero] at hv ht hm hl
  subst hv
  refine ⟨ht, ?_, hl, hm⟩
  rw [← ht, List.length_take]; omega
theorem dnum_err : ∀ (bs : List UInt8) (i n v k : Nat) (e : Int), dnum i n bs = (v, k, e) → e = 0 ∨ (v = 0 ∧ k = 0 ∧ (e = 10 ∨ e = 11)) := by
  intro bs
  induction bs with
  | nil => intro i n v k e h; simp [dnum] at h; omega
  | cons c r ih =>
    intro i n v k e h
    simp only [dnum] at h
    split at h
    · simp at h; omega
    · split at h
      · simp at h; omega
      · exact ih _ _ _ _ _ h
/-- A cut of what was written: read whole, or not read. -/
theorem dnum_cut {m v k j : Nat} {r : List UInt8} (hm : m < 18446744073709551616) (h : dnum 0 0 ((encU m ++ r).take j) = (v, k, 0)) : v = m ∧ k = (encU m).length := by
  obtain ⟨ht, hk, hl, hv⟩ := dnum_ok h
  have h1 : encU m ++ r = encU v ++ (((encU m ++ r).take j).drop k ++ (encU m ++ r).drop j) := by
    rw [← List.append_assoc, ← ht, List.take_append_drop, List.take_append_drop]
  have h2 := dnum_encU m r hm
  rw [h1, dnum_encU v _ hv] at h2
  simp only [Prod.mk.injEq, and_true] at h2
  obtain ⟨rfl, h3⟩ := h2
  exact ⟨rfl, hk⟩
end Go.Num
