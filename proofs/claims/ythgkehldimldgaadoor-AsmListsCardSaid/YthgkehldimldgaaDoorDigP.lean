/- DigP: numbers as text, there and back: plainly. -/
import Derived.Lib.ParseIntB
import Derived.Lib.ItoaNum
set_option linter.unusedVariables false
set_option linter.unusedSimpArgs false
namespace Go.Dig
open Go.Lib
theorem ofNat48 {d : Nat} (h : d < 10) : (UInt8.ofNat (48 + d)).toNat = 48 + d := by
  rw [UInt8.toNat_ofNat']
  omega
theorem dec_low {u : Nat} (h : u < 10) : decDigits u = [UInt8.ofNat (48 + u)] := decDigits_one h
theorem dec_high {u : Nat} (h : ¬ u < 10) : decDigits u = decDigits (u / 10) ++ [UInt8.ofNat (48 + u % 10)] := by rw [decDigits, dif_neg h]
theorem pm_app {M : Nat} : ∀ {l : List UInt8} {acc a : Nat} (r : List UInt8), parseUintM M acc l = .ok a → parseUintM M acc (l ++ r) = parseUintM M a r
  | [], acc, a, r, h => by
    simp only [parseUintM] at h
    cases h; rfl
  | c :: l, acc, a, r, h => by
    simp only [parseUintM] at h
    simp only [List.cons_append, parseUintM]
    split at h
    · rename_i h1
      rw [if_pos h1]
      split at h
      · cases h
      · rename_i h2
        rw [if_neg h2]
        split at h
        · cases h
        · rename_i h3
          rw [if_neg h3]
          exact pm_app r h
    · cases h
theorem pm_dec {M : Nat} (hM : M ≤ 18446744073709551615) (u : Nat) (hu : u ≤ M) : parseUintM M 0 (decDigits u) = .ok u := by
  induction u using Nat.strongRecOn with
  | ind u ih =>
    by_cases h : u < 10
    · rw [dec_low h]
      simp only [parseUintM, ofNat48 h]
      rw [if_pos (by omega), if_neg (by omega), if_neg (by omega)]
      congr 1; omega
    · rw [dec_high h, pm_app _ (ih (u / 10) (by omega) (by omega))]
      have h10 : u % 10 < 10 := by omega
      simp only [parseUintM, ofNat48 h10]
      rw [if_pos (by omega), if_neg (by omega), if_neg (by omega)]
      congr 1; omega
theorem dec_dig (u : Nat) : ∀ c ∈ decDigits u, 48 ≤ c.toNat ∧ c.toNat ≤ 57 := by
  induction u using Nat.strongRecOn with
  | ind u ih =>
    intro c hc
    by_cases h : u < 10
    · rw [dec_low h] at hc
      rw [List.mem_singleton] at hc
      rw [hc, ofNat48 h]; omega
    · rw [dec_high h] at hc
      rcases List.mem_append.1 hc with hc | hc
      · exact ih (u / 10) (by omega) c hc
      · rw [List.mem_singleton] at hc
        have h10 : u % 10 < 10 := by omega
        rw [hc, ofNat48 h10]; omega
theorem dec_ne (u : Nat) : decDigits u ≠ [] := by
  by_cases h : u < 10
  · rw [dec_low h]; simp
  · rw [dec_high h]; simp
def I64 (n : Int) : Prop := -9223372036854775808 ≤ n ∧ n ≤ 9223372036854775807
theorem pu_dec {u : Nat} (hu : u ≤ 18446744073709551615) : parseUintB 64 (decDigits u) = .ok u := by
  unfold parseUintB
  rw [if_neg (dec_ne u)]
  exact pm_dec (by omega) u (by omega)
theorem parse_itoa {n : Int} (h : I64 n) : parseIntB 64 (itoa n) = .ok n := by
  unfold itoa I64 at *
  by_cases hn : n < 0
  · rw [if_pos hn]
    have e : (if (45 : UInt8).toNat = 43 ∨ (45 : UInt8).toNat = 45 then decDigits n.natAbs else 45 :: decDigits n.natAbs) = decDigits n.natAbs := if_pos (Or.inr rfl)
    simp only [parseIntB]
    rw [e, pu_dec (by omega)]
    dsimp only
    rw [if_neg (fun h => h.1 rfl), if_neg (fun h => by omega), if_pos (show (45 : UInt8).toNat = 45 from rfl)]
    congr 1; omega
  · rw [if_neg hn]
    have hd := dec_dig n.toNat
    have hp := pu_dec (u := n.toNat) (by omega)
    have hne := dec_ne n.toNat
    generalize decDigits n.toNat = l at *
    cases l with
    | nil => exact absurd rfl hne
    | cons c r =>
      have hc := hd c (by simp)
      have e : (if c.toNat = 43 ∨ c.toNat = 45 then r else c :: r) = c :: r := if_neg (by omega)
      simp only [parseIntB]
      rw [e, hp]
      dsimp only
      rw [if_neg (fun h => by omega), if_neg (fun h => by omega), if_neg (fun h => by omega)]
      congr 1; omega
/-- What codec.Number makes of a text. -/
def numC (l : List UInt8) : Int × Bool := match parseIntB 64 l with
  | .ok v => if itoa v = l then (v, true) else (0, false)
  | _ => (0, false)
def rk (a : Nat) (c : UInt8) : Nat := if 48 ≤ c.toNat ∧ c.toNat ≤ 57 then (10 * a + (c.toNat - 48)) % 18446744073709551616 else a
def rkN (l : List UInt8) : Nat := (l.take 20).foldl rk 0
/-- The number, reckoned modulo 2^64. -/
def rkU (l : List UInt8) : Nat := if l.head? = some 45 then (18446744073709551616 - rkN l) % 18446744073709551616 else rkN l
def rkV (l : List UInt8) : Int := if rkU l < 9223372036854775808 then (rkU l : Int) else (rkU l : Int) - 18446744073709551616
def numD (l : List UInt8) : Int × Bool := if itoa (rkV l) = l then (rkV l, true) else (0, false)
theorem rk_lt {a : Nat} (c : UInt8) (h : a < 18446744073709551616) : rk a c < 18446744073709551616 := by
  unfold rk
  split
  · exact Nat.mod_lt _ (by decide)
  · exact h
theorem rkF_lt : ∀ (l : List UInt8) {a : Nat}, a < 18446744073709551616 → l.foldl rk a < 18446744073709551616
  | [], a, h => h
  | c :: l, a, h => rkF_lt l (rk_lt c h)
theorem rkN_lt (l : List UInt8) : rkN l < 18446744073709551616 := rkF_lt _ (by decide)
theorem rkU_lt (l : List UInt8) : rkU l < 18446744073709551616 := by
  unfold rkU
  split
  · exact Nat.mod_lt _ (by decide)
  · exact rkN_lt l
theorem rkV_64 (l : List UInt8) : I64 (rkV l) := by
  have := rkU_lt l
  unfold rkV I64
  split <;> omega
theorem rk_dec (u : Nat) (hu : u < 18446744073709551616) : (decDigits u).foldl rk 0 = u := by
  induction u using Nat.strongRecOn with
  | ind u ih =>
    by_cases h : u < 10
    · rw [dec_low h]
      simp only [List.foldl_cons, List.foldl_nil, rk, ofNat48 h]
      rw [if_pos (by omega)]
      omega
    · rw [dec_high h, List.foldl_append, ih (u / 10) (by omega) (by omega)]
      have h10 : u % 10 < 10 := by omega
      simp only [List.foldl_cons, List.foldl_nil, rk, ofNat48 h10]
      rw [if_pos (by omega)]
      omega
theorem dec_len {u : Nat} (hu : u < 10000000000000000000) : (decDigits u).length ≤ 19 := by
  rw [decDigits_length]
  have key : ∀ (k v : Nat), v < 10 ^ (k + 1) → nDigits v ≤ k + 1 := by
    intro k
    induction k with
    | zero => intro v hv; rw [nDigits_small (by simpa using hv)]; exact Nat.le_refl _
    | succ k ih =>
      intro v hv
      by_cases h : v < 10
      · rw [nDigits_small h]; omega
      · rw [nDigits_big h]
        have := ih (v / 10) (by rw [Nat.pow_succ] at hv; omega)
        omega
  exact key 18 u (by simpa using hu)
theorem dec_len20 {u : Nat} (hu : u < 100000000000000000000) : (decDigits u).length ≤ 20 := by
  by_cases h : u < 10
  · rw [dec_low h]; simp
  · rw [dec_high h, List.length_append]
    have := dec_len (u := u / 10) (by omega)
    simp; omega
theorem rkV_itoa {n : Int} (h : I64 n) : rkV (itoa n) = n := by
  unfold I64 at h
  unfold itoa
  by_cases hn : n < 0
  · rw [if_pos hn]
    have hl : (decDigits n.natAbs).length ≤ 19 := dec_len (by omega)
    have e1 : rkN (45 :: decDigits n.natAbs) = n.natAbs := by
      unfold rkN
      rw [List.take_of_length_le (by simp; omega)]
      simp only [List.foldl_cons]
      have : rk 0 45 = 0 := by decide
      rw [this]
      exact rk_dec _ (by omega)
    have e2 : rkU (45 :: decDigits n.natAbs) = 18446744073709551616 - n.natAbs := by
      unfold rkU
      rw [e1, if_pos (show (45 :: decDigits n.natAbs).head? = some 45 from rfl)]
      omega
    unfold rkV
    rw [e2]
    split <;> omega
  · rw [if_neg hn]
    have hl : (decDigits n.toNat).length ≤ 19 := dec_len (by omega)
    have e1 : rkN (decDigits n.toNat) = n.toNat := by
      unfold rkN
      rw [List.take_of_length_le (by omega)]
      exact rk_dec _ (by omega)
    have e2 : rkU (decDigits n.toNat) = n.toNat := by
      unfold rkU
      rw [e1, if_neg]
      intro h0
      have hd := dec_dig n.toNat
      generalize decDigits n.toNat = l at *
      cases l with
      | nil => cases h0
      | cons c r =>
        simp at h0
        have := hd c (by simp)
        rw [h0] at this
        exact absurd this (by decide)
    unfold rkV
    rw [e2]
    split <;> omega
theorem parse_64 {l : List UInt8} {v : Int} (hv : parseIntB 64 l = .ok v) : I64 v := by
  unfold parseIntB at hv
  split at hv
  · cases hv
  · rename_i c r
    simp only [] at hv
    split at hv
    · cases hv
    · cases hv
    · rename_i u hu
      split at hv
      · cases hv
      · split at hv
        · cases hv
        · rename_i h3 h4
          cases hv
          unfold I64
          split <;> rename_i h5 <;> simp_all <;> omega
/-- The two ways to read a number tell the same. -/
theorem num_eq (l : List UInt8) : numC l = numD l := by
  unfold numC numD
  by_cases h : itoa (rkV l) = l
  · rw [if_pos h]
    have := parse_itoa (rkV_64 l)
    rw [h] at this
    rw [this]
    simp only []
    rw [if_pos h]
  · rw [if_neg h]
    split
    · rename_i v hv
      split
      · rename_i h2
        exfalso
        apply h
        have h64 : I64 v := parse_64 hv
        have := rkV_itoa h64
        rw [h2] at this
        rw [this]; exact h2
      · rfl
    · rfl
theorem numC_itoa {n : Int} (h : I64 n) : numC (itoa n) = (n, true) := by
  unfold numC
  rw [parse_itoa h]
  dsimp only
  rw [if_pos rfl]
/-- The digits of what is left. -/
def digs (u : Nat) : List UInt8 := if u = 0 then [] else decDigits u
theorem digs_step {u : Nat} (h : u ≠ 0) : digs u = digs (u / 10) ++ [UInt8.ofNat (48 + u % 10)] := by
  unfold digs
  rw [if_neg h]
  by_cases h10 : u < 10
  · rw [dec_low h10, if_pos (by omega), List.nil_append, Nat.mod_eq_of_lt h10]
  · rw [dec_high h10, if_neg (by omega)]
end Go.Dig
