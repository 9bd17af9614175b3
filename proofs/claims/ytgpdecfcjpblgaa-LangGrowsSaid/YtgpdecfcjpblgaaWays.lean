/- Ways: what the depths and the longest way keep along every way; awake; the law LangWays. -/
import Derived.Test.YtgpdecfcjpblgaaEnc
import Derived.Test.YtgpdecfcjpblgaaVer
import Derived.Lib.BufferRead
set_option linter.unusedVariables false
set_option linter.unusedSimpArgs false
namespace Go.Lang
theorem put1_keep {m : Int} {d d' : List Int} {j : Int} (h : put1 m d j = some d') : ∀ (k : Nat) (x : Int), d[k]? = some x → 0 ≤ x → d'[k]? = some x := by
  unfold put1 at h
  split at h
  · rename_i y hy
    split at h
    · cases h
    · rename_i hn
      cases h
      intro k x hk hx
      rw [List.getElem?_set]
      split
      · rename_i he
        subst he
        rw [hy] at hk
        cases hk
        have : y = m := by omega
        have hl := (List.getElem?_eq_some_iff.1 hy).1
        rw [if_pos hl, this]
      · exact hk
  · cases h
theorem put1_at {m : Int} {d d' : List Int} {j : Int} (h : put1 m d j = some d') : d'[j.toNat]? = some m := by
  unfold put1 at h
  split at h
  · rename_i y hy
    split at h
    · cases h
    · cases h
      have hl := (List.getElem?_eq_some_iff.1 hy).1
      rw [List.getElem?_set_self hl]
  · cases h
theorem put1_other {m : Int} {d d' : List Int} {j : Int} (h : put1 m d j = some d') {k : Nat} (hk : j.toNat ≠ k) : d'[k]? = d[k]? := by
  unfold put1 at h
  split at h
  · split at h
    · cases h
    · cases h
      rw [List.getElem?_set_ne hk]
  · cases h
theorem putAll_keep {m : Int} : ∀ {l d d' : List Int}, putAll m l d = some d' → ∀ (k : Nat) (x : Int), d[k]? = some x → 0 ≤ x → d'[k]? = some x
  | [], d, d', h, k, x, hk, hx => by cases h; exact hk
  | j :: r, d, d', h, k, x, hk, hx => by
    rw [putAll_cons] at h
    cases hp : put1 m d j with
    | none => rw [hp] at h; cases h
    | some e => rw [hp] at h; exact putAll_keep h k x (put1_keep hp k x hk hx) hx
theorem putAll_at {m : Int} (hm : 0 ≤ m) : ∀ {l d d' : List Int}, putAll m l d = some d' → ∀ t ∈ l, d'[t.toNat]? = some m
  | [], d, d', h, t, ht => by cases ht
  | j :: r, d, d', h, t, ht => by
    rw [putAll_cons] at h
    cases hp : put1 m d j with
    | none => rw [hp] at h; cases h
    | some e =>
      rw [hp] at h
      rcases List.mem_cons.1 ht with rfl | ht
      · exact putAll_keep h _ _ (put1_at hp) hm
      · exact putAll_at hm h t ht
theorem putAll_other {m : Int} {k : Nat} : ∀ {l d d' : List Int}, putAll m l d = some d' → (∀ t ∈ l, t.toNat ≠ k) → d'[k]? = d[k]?
  | [], d, d', h, _ => by cases h; rfl
  | j :: r, d, d', h, hk => by
    rw [putAll_cons] at h
    cases hp : put1 m d j with
    | none => rw [hp] at h; cases h
    | some e =>
      rw [hp] at h
      rw [putAll_other h fun t ht => hk t (by simp [ht]), put1_other hp (hk j (by simp))]
def Fwd (c : List Ins) : Prop := ∀ (j : Nat) (x : Ins), c[j]? = some x → ∀ t ∈ wy x j, (j : Int) < t ∧ t ≤ c.length
/-- What one step keeps and brings. -/
theorem stepD_spec {c : List Ins} (hw : Fwd c) {d d' : List Int} {i : Nat} (h : stepD c d i = some d') : ∃ x q, c[i]? = some x ∧ d[i]? = some q ∧ (∀ k, k ≤ i → d'[k]? = d[k]?) ∧ (∀ (k : Nat) (y : Int), d[k]? = some y → 0 ≤ y → d'[k]? = some y) ∧
    (0 ≤ q → (mv x.1).1 ≤ q ∧ q - (mv x.1).1 + (mv x.1).2 ≤ 32 ∧ ∀ t ∈ wy x i, d'[t.toNat]? = some (q - (mv x.1).1 + (mv x.1).2)) := by
  unfold stepD at h
  split at h
  · rename_i x q hx hq
    refine ⟨x, q, hx, hq, ?_⟩
    split at h
    · cases h
      exact ⟨fun _ _ => rfl, fun k y h1 _ => h1, fun h0 => by omega⟩
    · split at h
      · cases h
      · rename_i hn hb
        have hmv := mv_rng x.1
        refine ⟨fun k hk => putAll_other h fun t ht => ?_, putAll_keep h, fun h0 => ⟨by omega, by omega, putAll_at (by omega) h⟩⟩
        have := (hw i x hx t ht).1
        omega
  · cases h
theorem walkD_spec {c : List Ins} (hw : Fwd c) : ∀ {k : Nat} {d D : List Int} {i : Nat}, walkD c k d i = some D → (∀ q, q ≤ i → (D[q]? = d[q]? ∨ k = 0 ∧ D[q]? = d[q]?)) ∧ (∀ (q : Nat) (y : Int), d[q]? = some y → 0 ≤ y → D[q]? = some y) ∧
    ∀ p, i ≤ p → p < i + k → ∃ x q, c[p]? = some x ∧ D[p]? = some q ∧ (0 ≤ q → (mv x.1).1 ≤ q ∧ q - (mv x.1).1 + (mv x.1).2 ≤ 32 ∧ ∀ t ∈ wy x p, D[t.toNat]? = some (q - (mv x.1).1 + (mv x.1).2))
  | 0, d, D, i, h => by cases h; exact ⟨fun _ _ => .inl rfl, fun _ _ h _ => h, fun p h1 h2 => by omega⟩
  | k + 1, d, D, i, h => by
    simp only [walkD] at h
    cases hs : stepD c d i with
    | none => rw [hs] at h; cases h
    | some e =>
      rw [hs] at h
      obtain ⟨x, q, hx, hq, h1, h2, h3⟩ := stepD_spec hw hs
      obtain ⟨g1, g2, g3⟩ := walkD_spec hw (show walkD c k e (i + 1) = some D from h)
      have low : ∀ q, q ≤ i + 1 → D[q]? = e[q]? := fun q hq => (g1 q hq).elim id fun h => h.2
      refine ⟨fun r hr => .inl (by rw [low r (by omega), h1 r hr]), fun r y hr hy => g2 r y (h2 r y hr hy) hy, fun p hp1 hp2 => ?_⟩
      rcases Nat.lt_or_ge i p with hlt | hge
      · exact g3 p (by omega) (by omega)
      · have : p = i := by omega
        subst this
        refine ⟨x, q, hx, by rw [low p (by omega), h1 p (by omega), hq], fun h0 => ?_⟩
        obtain ⟨a1, a2, a3⟩ := h3 h0
        have hmv := mv_rng x.1
        exact ⟨a1, a2, fun t ht => g2 _ _ (a3 t ht) (by omega)⟩
/-- The depths of a sound program. -/
theorem depths_spec {a b c d : Int} {l : List Ins} (h : (depths a b c d l).2 = 0) : (depths a b c d l).1.length = l.length + 1 ∧ (depths a b c d l).1[0]? = some 0 ∧
    ∀ (p : Nat) (x : Ins), l[p]? = some x → ∃ q, (depths a b c d l).1[p]? = some q ∧ (0 ≤ q → (mv x.1).1 ≤ q ∧ q - (mv x.1).1 + (mv x.1).2 ≤ 32 ∧ ∀ t ∈ wy x p, (depths a b c d l).1[t.toNat]? = some (q - (mv x.1).1 + (mv x.1).2)) := by
  obtain ⟨hok, hchk⟩ := depths_ok0 h
  have hways := chk_ways hchk (by omega)
  simp only [Nat.zero_add, Int.natCast_zero, Int.zero_add] at hways
  have hw : Fwd l := fun j x hj t ht => (hways j x hj).2 t ht
  unfold depths at h ⊢
  rw [if_neg (by simp [hok]), if_neg (by simp [hchk])] at h ⊢
  cases hD : walkD l l.length (d0 l.length) 0 with
  | none => rw [hD] at h; simp at h
  | some D =>
    obtain ⟨g1, g2, g3⟩ := walkD_spec hw hD
    refine ⟨by rw [walkD_len hD, d0_len], g2 0 0 rfl (Int.le_refl _), fun p x hp => ?_⟩
    have hlt := (List.getElem?_eq_some_iff.1 hp).1
    obtain ⟨x', q, hx, hq, hr⟩ := g3 p (by omega) (by omega)
    rw [hp] at hx
    cases hx
    exact ⟨q, hq, hr⟩
theorem walkL_high {c : List Ins} : ∀ {k : Nat} {e : List Int} {p : Nat}, k ≤ p → (walkL c k e)[p]? = e[p]?
  | 0, e, p, _ => rfl
  | k + 1, e, p, h => by
    simp only [walkL]
    rw [walkL_high (by omega), List.getElem?_set_ne (by omega)]
theorem walkL_length {c : List Ins} : ∀ {k : Nat} {e : List Int}, (walkL c k e).length = e.length
  | 0, e => rfl
  | k + 1, e => by simp only [walkL]; rw [walkL_length]; simp
theorem most1_congr {e e' : List Int} : ∀ {l : List Int} {m : Int}, (∀ t ∈ l, e[t.toNat]? = e'[t.toNat]?) → most1 e l m = most1 e' l m
  | [], m, _ => rfl
  | j :: r, m, h => by
    rw [most1_cons, most1_cons, h j (by simp)]
    exact most1_congr fun t ht => h t (by simp [ht])
theorem most1_ge {e : List Int} : ∀ {l : List Int} {m : Int}, m ≤ most1 e l m ∧ ∀ t ∈ l, e[t.toNat]?.getD 0 ≤ most1 e l m
  | [], m => ⟨Int.le_refl _, fun t ht => by cases ht⟩
  | j :: r, m => by
    rw [most1_cons]
    have ih := most1_ge (e := e) (l := r) (m := max m (e[j.toNat]?.getD 0))
    refine ⟨by omega, fun t ht => ?_⟩
    rcases List.mem_cons.1 ht with rfl | ht
    · omega
    · exact ih.2 t ht
theorem walkL_at {c : List Ins} (hw : Fwd c) : ∀ {k : Nat} {e : List Int} {p : Nat} (hp : p < k), k ≤ c.length → e.length = c.length + 1 → ∃ x, c[p]? = some x ∧ (walkL c k e)[p]? = some (most1 (walkL c k e) (wy x p) 0 + 1)
  | 0, e, p, hp, _, _ => by omega
  | k + 1, e, p, hp, hk, he => by
    rw [walkL_succ (by omega)]
    rcases Nat.lt_or_ge p k with hlt | hge
    · exact walkL_at hw hlt (by omega) (by simpa using he)
    · have : p = k := by omega
      subst this
      refine ⟨c[p], by simp, ?_⟩
      rw [walkL_high (Nat.le_refl _), List.getElem?_set_self (by omega)]
      congr 2
      refine most1_congr fun t ht => ?_
      have := (hw p c[p] (by simp) t ht).1
      rw [walkL_high (by omega), List.getElem?_set_ne (by omega)]
/-- The longest ways of a sound program: L. -/
def longL (l : List Ins) : List Int := walkL l l.length (List.replicate (l.length + 1) 0)
theorem longL_spec {l : List Ins} (hw : Fwd l) : (longL l).length = l.length + 1 ∧ ∀ (p : Nat) (x : Ins), l[p]? = some x → ∃ v, (longL l)[p]? = some v ∧ 1 ≤ v ∧ ∀ t ∈ wy x p, ∃ u, (longL l)[t.toNat]? = some u ∧ u + 1 ≤ v := by
  have hlen : (longL l).length = l.length + 1 := by unfold longL; rw [walkL_length]; simp
  refine ⟨hlen, fun p x hp => ?_⟩
  have hlt := (List.getElem?_eq_some_iff.1 hp).1
  obtain ⟨x', hx, hv⟩ := walkL_at hw (e := List.replicate (l.length + 1) 0) hlt (Nat.le_refl _) (by simp)
  rw [hp] at hx
  cases hx
  have hge := most1_ge (e := longL l) (l := wy x p) (m := 0)
  refine ⟨_, hv, by have := hge.1; unfold longL at this; omega, fun t ht => ?_⟩
  have htl := hw p x hp t ht
  have hg := hge.2 t ht
  have : t.toNat < (longL l).length := by omega
  rw [List.getElem?_eq_getElem this] at hg
  refine ⟨_, List.getElem?_eq_getElem this, ?_⟩
  unfold longL at hg ⊢
  simp only [Option.getD_some] at hg
  omega
theorem longest_eq {a b c d : Int} {l : List Ins} (h : (depths a b c d l).2 = 0) : longest a b c d l = ((longL l)[0]?.getD 0, 0) := by
  unfold longest longL
  rw [if_neg (by simp [h])]
theorem fwd_of {a b c d : Int} {l : List Ins} (h : (depths a b c d l).2 = 0) : Fwd l ∧ ∀ (j : Nat) (x : Ins), l[j]? = some x → 0 ≤ x.1 ∧ x.1 < 37 := by
  obtain ⟨hok, hchk⟩ := depths_ok0 h
  have hways := chk_ways hchk (by omega)
  simp only [Nat.zero_add, Int.natCast_zero, Int.zero_add] at hways
  exact ⟨fun j x hj t ht => (hways j x hj).2 t ht, fun j x hj => (hways j x hj).1⟩
def afterT (op n : Int) : Int := if n < (mv op).1 ∨ n - (mv op).1 + (mv op).2 > 32 then -1 else n - (mv op).1 + (mv op).2
end Go.Lang
namespace Go.Pl
open Go Go.Sh Go.RowKit
theorem to_str {P : Program} {src dst e : TypeId} {w : World} {s : Slc} {bs : List UInt8} (hs : P.underlying src = some (.slice e)) (he : P.underlying e = some (.int .u8)) (hd : P.underlying dst = some .string) (h : Rd w s (U8 bs)) : (convert src dst (.slice s.a s.l s.c)).run P w = .ok (.string ⟨bs.toArray⟩) w := by
  have hl := h.len
  simp only [U8_length] at hl
  cases hsa : s.a with
  | some a =>
    rw [hl]
    refine run_convert_bytes_back w src dst e a s.c bs hs he hd fun j hj => ?_
    rw [cells_of_rd h hsa j _ (U8_at bs hj)]
  | none =>
    have h0 : bs = [] := by
      cases bs with
      | nil => rfl
      | cons x bs => obtain ⟨ad, had, _⟩ := h.at_ 0 (by simp); rw [hsa] at had; cases had
    subst h0
    simp at hl
    rw [hl]
    exact Lib.run_convert_nil_bytes w src dst e s.c hs he hd
end Go.Pl
