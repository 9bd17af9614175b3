/- VmP: the machine, plainly: its state, a step, what holds along every run of a sound program. -/
import Derived.Test.YtlnhecbgjjglfaaGreatLong
set_option linter.unusedVariables false
set_option linter.unusedSimpArgs false
namespace Go.Lang
theorem put1_keep {m : Int} {d d' : List Int} {j : Int} (h : put1 m d j = some d') : ∀ (k : Nat) (x : Int), d[k]? = some x → 0 ≤ x → d'[k]? = some x := by
  unfold put1 at h
  split at h
  · rename_i y hy
    split at h
    · cases h
    · rename_i hn
      cases h
      intro k x hk hx
      rw [List.getElem?_set]
      split
      · rename_i he
        subst he
        rw [hy] at hk
        cases hk
        have : y = m := by omega
        have hl := (List.getElem?_eq_some_iff.1 hy).1
        rw [if_pos hl, this]
      · exact hk
  · cases h
theorem put1_at {m : Int} {d d' : List Int} {j : Int} (h : put1 m d j = some d') : d'[j.toNat]? = some m := by
  unfold put1 at h
  split at h
  · rename_i y hy
    split at h
    · cases h
    · cases h
      have hl := (List.getElem?_eq_some_iff.1 hy).1
      rw [List.getElem?_set_self hl]
  · cases h
theorem put1_other {m : Int} {d d' : List Int} {j : Int} (h : put1 m d j = some d') {k : Nat} (hk : j.toNat ≠ k) : d'[k]? = d[k]? := by
  unfold put1 at h
  split at h
  · split at h
    · cases h
    · cases h
      rw [List.getElem?_set_ne hk]
  · cases h
theorem putAll_keep {m : Int} : ∀ {l d d' : List Int}, putAll m l d = some d' → ∀ (k : Nat) (x : Int), d[k]? = some x → 0 ≤ x → d'[k]? = some x
  | [], d, d', h, k, x, hk, hx => by cases h; exact hk
  | j :: r, d, d', h, k, x, hk, hx => by
    rw [putAll_cons] at h
    cases hp : put1 m d j with
    | none => rw [hp] at h; cases h
    | some e => rw [hp] at h; exact putAll_keep h k x (put1_keep hp k x hk hx) hx
theorem putAll_at {m : Int} (hm : 0 ≤ m) : ∀ {l d d' : List Int}, putAll m l d = some d' → ∀ t ∈ l, d'[t.toNat]? = some m
  | [], d, d', h, t, ht => by cases ht
  | j :: r, d, d', h, t, ht => by
    rw [putAll_cons] at h
    cases hp : put1 m d j with
    | none => rw [hp] at h; cases h
    | some e =>
      rw [hp] at h
      rcases List.mem_cons.1 ht with rfl | ht
      · exact putAll_keep h _ _ (put1_at hp) hm
      · exact putAll_at hm h t ht
theorem putAll_other {m : Int} {k : Nat} : ∀ {l d d' : List Int}, putAll m l d = some d' → (∀ t ∈ l, t.toNat ≠ k) → d'[k]? = d[k]?
  | [], d, d', h, _ => by cases h; rfl
  | j :: r, d, d', h, hk => by
    rw [putAll_cons] at h
    cases hp : put1 m d j with
    | none => rw [hp] at h; cases h
    | some e =>
      rw [hp] at h
      rw [putAll_other h fun t ht => hk t (by simp [ht]), put1_other hp (hk j (by simp))]
def Fwd (c : List Ins) : Prop := ∀ (j : Nat) (x : Ins), c[j]? = some x → ∀ t ∈ wy x j, (j : Int) < t ∧ t ≤ c.length
/-- What one step keeps and brings. -/
theorem stepD_spec {c : List Ins} (hw : Fwd c) {d d' : List Int} {i : Nat} (h : stepD c d i = some d') : ∃ x q, c[i]? = some x ∧ d[i]? = some q ∧ (∀ k, k ≤ i → d'[k]? = d[k]?) ∧ (∀ (k : Nat) (y : Int), d[k]? = some y → 0 ≤ y → d'[k]? = some y) ∧
    (0 ≤ q → (mv x.1).1 ≤ q ∧ q - (mv x.1).1 + (mv x.1).2 ≤ 32 ∧ ∀ t ∈ wy x i, d'[t.toNat]? = some (q - (mv x.1).1 + (mv x.1).2)) := by
  unfold stepD at h
  split at h
  · rename_i x q hx hq
    refine ⟨x, q, hx, hq, ?_⟩
    split at h
    · cases h
      exact ⟨fun _ _ => rfl, fun k y h1 _ => h1, fun h0 => by omega⟩
    · split at h
      · cases h
      · rename_i hn hb
        have hmv := mv_rng x.1
        refine ⟨fun k hk => putAll_other h fun t ht => ?_, putAll_keep h, fun h0 => ⟨by omega, by omega, putAll_at (by omega) h⟩⟩
        have := (hw i x hx t ht).1
        omega
  · cases h
theorem walkD_spec {c : List Ins} (hw : Fwd c) : ∀ {k : Nat} {d D : List Int} {i : Nat}, walkD c k d i = some D → (∀ q, q ≤ i → (D[q]? = d[q]? ∨ k = 0 ∧ D[q]? = d[q]?)) ∧ (∀ (q : Nat) (y : Int), d[q]? = some y → 0 ≤ y → D[q]? = some y) ∧
    ∀ p, i ≤ p → p < i + k → ∃ x q, c[p]? = some x ∧ D[p]? = some q ∧ (0 ≤ q → (mv x.1).1 ≤ q ∧ q - (mv x.1).1 + (mv x.1).2 ≤ 32 ∧ ∀ t ∈ wy x p, D[t.toNat]? = some (q - (mv x.1).1 + (mv x.1).2))
  | 0, d, D, i, h => by cases h; exact ⟨fun _ _ => .inl rfl, fun _ _ h _ => h, fun p h1 h2 => by omega⟩
  | k + 1, d, D, i, h => by
    simp only [walkD] at h
    cases hs : stepD c d i with
    | none => rw [hs] at h; cases h
    | some e =>
      rw [hs] at h
      obtain ⟨x, q, hx, hq, h1, h2, h3⟩ := stepD_spec hw hs
      obtain ⟨g1, g2, g3⟩ := walkD_spec hw (show walkD c k e (i + 1) = some D from h)
      have low : ∀ q, q ≤ i + 1 → D[q]? = e[q]? := fun q hq => (g1 q hq).elim id fun h => h.2
      refine ⟨fun r hr => .inl (by rw [low r (by omega), h1 r hr]), fun r y hr hy => g2 r y (h2 r y hr hy) hy, fun p hp1 hp2 => ?_⟩
      rcases Nat.lt_or_ge i p with hlt | hge
      · exact g3 p (by omega) (by omega)
      · have : p = i := by omega
        subst this
        refine ⟨x, q, hx, by rw [low p (by omega), h1 p (by omega), hq], fun h0 => ?_⟩
        obtain ⟨a1, a2, a3⟩ := h3 h0
        have hmv := mv_rng x.1
        exact ⟨a1, a2, fun t ht => g2 _ _ (a3 t ht) (by omega)⟩
/-- The depths of a sound program. -/
theorem depths_spec {a b c d : Int} {l : List Ins} (h : (depths a b c d l).2 = 0) : (depths a b c d l).1.length = l.length + 1 ∧ (depths a b c d l).1[0]? = some 0 ∧
    ∀ (p : Nat) (x : Ins), l[p]? = some x → ∃ q, (depths a b c d l).1[p]? = some q ∧ (0 ≤ q → (mv x.1).1 ≤ q ∧ q - (mv x.1).1 + (mv x.1).2 ≤ 32 ∧ ∀ t ∈ wy x p, (depths a b c d l).1[t.toNat]? = some (q - (mv x.1).1 + (mv x.1).2)) := by
  obtain ⟨hok, hchk⟩ := depths_ok0 h
  have hways := chk_ways hchk (by omega)
  simp only [Nat.zero_add, Int.natCast_zero, Int.zero_add] at hways
  have hw : Fwd l := fun j x hj t ht => (hways j x hj).2 t ht
  unfold depths at h ⊢
  rw [if_neg (by simp [hok]), if_neg (by simp [hchk])] at h ⊢
  cases hD : walkD l l.length (d0 l.length) 0 with
  | none => rw [hD] at h; simp at h
  | some D =>
    obtain ⟨g1, g2, g3⟩ := walkD_spec hw hD
    refine ⟨by rw [walkD_len hD, d0_len], g2 0 0 rfl (Int.le_refl _), fun p x hp => ?_⟩
    have hlt := (List.getElem?_eq_some_iff.1 hp).1
    obtain ⟨x', q, hx, hq, hr⟩ := g3 p (by omega) (by omega)
    rw [hp] at hx
    cases hx
    exact ⟨q, hq, hr⟩
theorem walkL_high {c : List Ins} : ∀ {k : Nat} {e : List Int} {p : Nat}, k ≤ p → (walkL c k e)[p]? = e[p]?
  | 0, e, p, _ => rfl
  | k + 1, e, p, h => by
    simp only [walkL]
    rw [walkL_high (by omega), List.getElem?_set_ne (by omega)]
theorem walkL_length {c : List Ins} : ∀ {k : Nat} {e : List Int}, (walkL c k e).length = e.length
  | 0, e => rfl
  | k + 1, e => by simp only [walkL]; rw [walkL_length]; simp
theorem most1_congr {e e' : List Int} : ∀ {l : List Int} {m : Int}, (∀ t ∈ l, e[t.toNat]? = e'[t.toNat]?) → most1 e l m = most1 e' l m
  | [], m, _ => rfl
  | j :: r, m, h => by
    rw [most1_cons, most1_cons, h j (by simp)]
    exact most1_congr fun t ht => h t (by simp [ht])
theorem most1_ge {e : List Int} : ∀ {l : List Int} {m : Int}, m ≤ most1 e l m ∧ ∀ t ∈ l, e[t.toNat]?.getD 0 ≤ most1 e l m
  | [], m => ⟨Int.le_refl _, fun t ht => by cases ht⟩
  | j :: r, m => by
    rw [most1_cons]
    have ih := most1_ge (e := e) (l := r) (m := max m (e[j.toNat]?.getD 0))
    refine ⟨by omega, fun t ht => ?_⟩
    rcases List.mem_cons.1 ht with rfl | ht
    · omega
    · exact ih.2 t ht
theorem walkL_at {c : List Ins} (hw : Fwd c) : ∀ {k : Nat} {e : List Int} {p : Nat} (hp : p < k), k ≤ c.length → e.length = c.length + 1 → ∃ x, c[p]? = some x ∧ (walkL c k e)[p]? = some (most1 (walkL c k e) (wy x p) 0 + 1)
  | 0, e, p, hp, _, _ => by omega
  | k + 1, e, p, hp, hk, he => by
    rw [walkL_succ (by omega)]
    rcases Nat.lt_or_ge p k with hlt | hge
    · exact walkL_at hw hlt (by omega) (by simpa using he)
    · have : p = k := by omega
      subst this
      refine ⟨c[p], by simp, ?_⟩
      rw [walkL_high (Nat.le_refl _), List.getElem?_set_self (by omega)]
      congr 2
      refine most1_congr fun t ht => ?_
      have := (hw p c[p] (by simp) t ht).1
      rw [walkL_high (by omega), List.getElem?_set_ne (by omega)]
/-- The longest ways of a sound program: L. -/
def longL (l : List Ins) : List Int := walkL l l.length (List.replicate (l.length + 1) 0)
theorem longL_spec {l : List Ins} (hw : Fwd l) : (longL l).length = l.length + 1 ∧ ∀ (p : Nat) (x : Ins), l[p]? = some x → ∃ v, (longL l)[p]? = some v ∧ 1 ≤ v ∧ ∀ t ∈ wy x p, ∃ u, (longL l)[t.toNat]? = some u ∧ u + 1 ≤ v := by
  have hlen : (longL l).length = l.length + 1 := by unfold longL; rw [walkL_length]; simp
  refine ⟨hlen, fun p x hp => ?_⟩
  have hlt := (List.getElem?_eq_some_iff.1 hp).1
  obtain ⟨x', hx, hv⟩ := walkL_at hw (e := List.replicate (l.length + 1) 0) hlt (Nat.le_refl _) (by simp)
  rw [hp] at hx
  cases hx
  have hge := most1_ge (e := longL l) (l := wy x p) (m := 0)
  refine ⟨_, hv, by have := hge.1; unfold longL at this; omega, fun t ht => ?_⟩
  have htl := hw p x hp t ht
  have hg := hge.2 t ht
  have : t.toNat < (longL l).length := by omega
  rw [List.getElem?_eq_getElem this] at hg
  refine ⟨_, List.getElem?_eq_getElem this, ?_⟩
  unfold longL at hg ⊢
  simp only [Option.getD_some] at hg
  omega
theorem longest_eq {a b c d : Int} {l : List Ins} (h : (depths a b c d l).2 = 0) : longest a b c d l = ((longL l)[0]?.getD 0, 0) := by
  unfold longest longL
  rw [if_neg (by simp [h])]
theorem fwd_of {a b c d : Int} {l : List Ins} (h : (depths a b c d l).2 = 0) : Fwd l ∧ ∀ (j : Nat) (x : Ins), l[j]? = some x → 0 ≤ x.1 ∧ x.1 < 37 := by
  obtain ⟨hok, hchk⟩ := depths_ok0 h
  have hways := chk_ways hchk (by omega)
  simp only [Nat.zero_add, Int.natCast_zero, Int.zero_add] at hways
  exact ⟨fun j x hj t ht => (hways j x hj).2 t ht, fun j x hj => (hways j x hj).1⟩
theorem chk_ins {a b c d : Int} {n : Nat} : ∀ {l : List Ins} {i : Nat}, chk a b c d n l i = 0 → ∀ (k : Nat) (x : Ins), l[k]? = some x → insE a b c d n x (i + k) = 0 := by
  intro l
  induction l with
  | nil => intro i _ k x hx; simp at hx
  | cons y r ih =>
    intro i h k x hx
    simp only [chk] at h
    by_cases he : insE a b c d n y i ≠ 0
    · rw [if_pos he] at h; exact absurd h he
    · rw [if_neg he] at h
      cases k with
      | zero => simp at hx; subst hx; exact Decidable.not_not.1 he
      | succ k =>
        have := ih h k x (by simpa using hx)
        rw [show i + (k + 1) = i + 1 + k by omega]
        exact this
end Go.Lang
namespace Go.Vm
open Go Go.Lang
abbrev Cel := Bool × Int
/-- A program, and what it is given. -/
structure En where
  a : Int
  b : Int
  c : Int
  d : Int
  is : List Ins
  args : List Int
  rs : List Cel
/-- A machine's state; the stack's top comes first. -/
structure Mc where
  st : List Int
  lo : List Int
  out : List Int
  pu : List (Int × Int)
  pc : Nat
  n : Nat
  dn : Bool
  cd : Int
  us : Int
def tr (b : Bool) : Int := if b then 1 else 0
abbrev wr (x : Int) : Int := IntKind.i64.wrap x
def two (op x y : Int) : Int × Int :=
  if op = 10 then (wr (x + y), 0) else if op = 11 then (wr (x - y), 0) else if op = 12 then (wr (x * y), 0) else
  if op = 13 then (if y = 0 then (0, 201) else (wr (x.tdiv y), 0)) else if op = 14 then (if y = 0 then (0, 201) else (x.tmod y, 0)) else
  if op = 15 then (Sh.bAnd .i64 x y, 0) else if op = 16 then (Sh.bOr .i64 x y, 0) else if op = 17 then (Sh.bXor .i64 x y, 0) else
  if op = 18 then (if y < 0 then (0, 202) else (wr (x * 2 ^ min (IntKind.u64.wrap y).toNat (IntKind.bits .i64)), 0)) else if op = 19 then (if y < 0 then (0, 202) else (x.fdiv (2 ^ min (IntKind.u64.wrap y).toNat (IntKind.bits .i64)), 0)) else
  if op = 22 then (tr (x == y), 0) else if op = 23 then (tr (x != y), 0) else if op = 24 then (tr (x < y), 0) else if op = 25 then (tr (x ≤ y), 0) else
  if op = 26 then (tr (x > y), 0) else if op = 27 then (tr (x ≥ y), 0) else if op = 28 then (min x y, 0) else (max x y, 0)
def zs (d : Int) : List Int := List.replicate d.toNat 0
def zp (c : Int) : List (Int × Int) := List.replicate c.toNat (0, 0)
/-- What stands at a read. -/
def rv (E : En) (i : Int) : Int := match E.rs[i.toNat]? with | some c => if c.1 then c.2 else 0 | none => 0
def putAt (m : Mc) (i : Int) (p : Int × Int) : Mc × Int := if i < 0 ∨ i ≥ (m.pu.length : Int) then (m, 203) else ({ m with pu := m.pu.set i.toNat p }, 0)
/-- What an instruction does that neither stops nor jumps nor aborts: the state, the fault. -/
def ex (E : En) (m : Mc) (x : Ins) : Mc × Int :=
  if x.1 = 1 then ({ m with st := x.2 :: m.st }, 0) else
  if x.1 = 2 then ({ m with st := m.st.tail }, 0) else
  if x.1 = 3 then ({ m with st := m.st.headD 0 :: m.st }, 0) else
  if x.1 = 4 then ({ m with st := m.lo[x.2.toNat]?.getD 0 :: m.st }, 0) else
  if x.1 = 5 then ({ m with st := m.st.tail, lo := m.lo.set x.2.toNat (m.st.headD 0) }, 0) else
  if x.1 = 6 then ({ m with st := E.args[x.2.toNat]?.getD 0 :: m.st }, 0) else
  if x.1 = 7 then ({ m with st := rv E x.2 :: m.st }, 0) else
  if x.1 = 8 then ({ m with st := tr (match E.rs[x.2.toNat]? with | some c => c.1 | none => false) :: m.st }, 0) else
  if x.1 = 9 then (if m.st.headD 0 < 0 ∨ m.st.headD 0 ≥ (E.rs.length : Int) then (m, 203) else ({ m with st := rv E (m.st.headD 0) :: m.st.tail }, 0)) else
  if x.1 = 20 then ({ m with st := wr (-(m.st.headD 0)) :: m.st.tail }, 0) else
  if x.1 = 21 then ({ m with st := tr (m.st.headD 0 == 0) :: m.st.tail }, 0) else
  if x.1 = 32 then putAt { m with st := m.st.tail } x.2 (1, m.st.headD 0) else
  if x.1 = 33 then putAt m x.2 (2, 0) else
  if x.1 = 34 then putAt { m with st := m.st.tail.tail } (m.st.tail.headD 0) (1, m.st.headD 0) else
  if x.1 = 35 then (if m.out.length ≥ 16 then (m, 204) else ({ m with st := m.st.tail, out := m.out ++ [m.st.headD 0] }, 0)) else
  ({ m with st := (two x.1 (m.st.tail.headD 0) (m.st.headD 0)).1 :: m.st.tail.tail }, (two x.1 (m.st.tail.headD 0) (m.st.headD 0)).2)
def fault (E : En) (m : Mc) (e u : Int) : Mc := ⟨[], zs E.d, [], zp E.c, m.pc, m.n, true, e, u⟩
def goto' (E : En) (m : Mc) (t : Nat) : Mc := { m with pc := t, dn := t == E.is.length }
/-- What an instruction does; the step has been counted. -/
def act (E : En) (m : Mc) (x : Ins) : Mc :=
    if x.1 = 0 then { m with dn := true } else
    if x.1 = 30 then goto' E m x.2.toNat else
    if x.1 = 31 then goto' E { m with st := m.st.tail } (if m.st.headD 0 = 0 then x.2.toNat else m.pc + 1) else
    if x.1 = 36 then fault E m 200 (m.st.headD 0) else
    if (ex E m x).2 ≠ 0 then fault E m (ex E m x).2 0 else goto' E (ex E m x).1 (m.pc + 1)
def tick (m : Mc) : Mc := { m with n := m.n + 1 }
def step (E : En) (m : Mc) : Mc := match E.is[m.pc]? with
  | none => m
  | some x => act E (tick m) x
def mc0 (E : En) : Mc := ⟨[], zs E.d, [], zp E.c, 0, 0, E.is.length == 0, 0, 0⟩
structure Sound (E : En) : Prop where
  ok : (depths E.a E.b E.c E.d E.is).2 = 0
  args : (E.args.length : Int) = E.a
  reads : (E.rs.length : Int) = E.b
abbrev I64 (x : Int) : Prop := -9223372036854775808 ≤ x ∧ x ≤ 9223372036854775807
/-- What holds along every run. -/
structure Iv (E : En) (m : Mc) : Prop where
  lo : (m.lo.length : Int) = E.d
  pu : (m.pu.length : Int) = E.c
  out : m.out.length ≤ 16
  pc : m.pc ≤ E.is.length
  n : m.n ≤ m.pc + (if m.dn then 1 else 0)
  st : m.st.length ≤ 32
  more : m.dn = false → m.pc < E.is.length ∧ (depths E.a E.b E.c E.d E.is).1[m.pc]? = some (m.st.length : Int) ∧ m.cd = 0 ∧ m.us = 0 ∧ m.n ≤ m.pc
  far : m.dn = false → ∃ v u, (longL E.is)[m.pc]? = some v ∧ (longL E.is)[0]? = some u ∧ (m.n : Int) + v ≤ u
  fin : m.dn = true → (∃ u, (longL E.is)[0]? = some u ∧ (m.n : Int) ≤ u) ∧ (m.cd = 0 → m.us = 0) ∧ (m.cd ≠ 0 → m.st = [] ∧ m.out = [] ∧ m.lo = zs E.d ∧ m.pu = zp E.c ∧ 200 ≤ m.cd ∧ m.cd ≤ 204 ∧ (m.cd ≠ 200 → m.us = 0))
/-- What stands at a place of a sound program. -/
theorem Iv.at {E : En} {m : Mc} (hS : Sound E) (h : Iv E m) (hd : m.dn = false) : ∃ x, E.is[m.pc]? = some x ∧ 0 ≤ x.1 ∧ x.1 < 37 ∧ insE E.a E.b E.c E.d E.is.length x m.pc = 0 ∧ (mv x.1).1 ≤ (m.st.length : Int) ∧ (m.st.length : Int) - (mv x.1).1 + (mv x.1).2 ≤ 32 ∧
    (∀ t ∈ wy x m.pc, (m.pc : Int) < t ∧ t ≤ E.is.length ∧ (depths E.a E.b E.c E.d E.is).1[t.toNat]? = some ((m.st.length : Int) - (mv x.1).1 + (mv x.1).2)) := by
  obtain ⟨hlt, hq, _, _, _⟩ := h.more hd
  obtain ⟨hfw, hop⟩ := fwd_of hS.ok
  obtain ⟨hl, h0, hsp⟩ := depths_spec hS.ok
  have hx : E.is[m.pc]? = some E.is[m.pc] := by simp
  obtain ⟨q, hq', hr⟩ := hsp m.pc _ hx
  rw [hq] at hq'
  cases hq'
  obtain ⟨r1, r2, r3⟩ := hr (by omega)
  obtain ⟨hok, hchk⟩ := depths_ok0 hS.ok
  have hi := chk_ins hchk m.pc _ hx
  rw [Nat.zero_add] at hi
  exact ⟨_, hx, (hop _ _ hx).1, (hop _ _ hx).2, hi, r1, r2, fun t ht => ⟨(hfw _ _ hx t ht).1, (hfw _ _ hx t ht).2, r3 t ht⟩⟩
theorem mv2 {op : Int} (h0 : 0 ≤ op) (h : op < 37) (h1 : op ≠ 0) (h2 : op ≠ 1) (h3 : op ≠ 2) (h4 : op ≠ 3) (h5 : op ≠ 4) (h6 : op ≠ 5) (h7 : op ≠ 6) (h8 : op ≠ 7) (h9 : op ≠ 8) (h10 : op ≠ 9) (h20 : op ≠ 20) (h21 : op ≠ 21) (h30 : op ≠ 30) (h31 : op ≠ 31) (h32 : op ≠ 32) (h33 : op ≠ 33) (h34 : op ≠ 34) (h35 : op ≠ 35) (h36 : op ≠ 36) : mv op = (2, 1) := by
  unfold mv
  rw [if_neg (by omega), if_neg (by omega), if_neg (by omega), if_neg (by omega), if_neg (by omega), if_neg (by omega)]
theorem pite {α : Type} {P : α → Prop} {c : Prop} [Decidable c] {a b : α} (h1 : c → P a) (h2 : ¬ c → P b) : P (if c then a else b) := by
  by_cases h : c
  · rw [if_pos h]; exact h1 h
  · rw [if_neg h]; exact h2 h
def Flt (p : Int × Int) : Prop := p.2 = 0 ∨ p.2 = 201 ∨ p.2 = 202
theorem two_f (op x y : Int) : Flt (two op x y) := by
  unfold two
  repeat' first | exact .inl rfl | exact .inr (.inl rfl) | exact .inr (.inr rfl) | refine pite (P := Flt) (fun _ => ?_) (fun _ => ?_)
/-- What an instruction keeps. -/
structure ExF (E : En) (m : Mc) (x : Ins) (r : Mc × Int) : Prop where
  lo : r.1.lo.length = m.lo.length
  pu : r.1.pu.length = m.pu.length
  pc : r.1.pc = m.pc
  n : r.1.n = m.n
  dn : r.1.dn = m.dn
  cd : r.1.cd = m.cd
  us : r.1.us = m.us
  out : r.1.out.length ≤ 16
  f : r.2 = 0 ∨ r.2 = 201 ∨ r.2 = 202 ∨ r.2 = 203 ∨ r.2 = 204
  st : r.2 = 0 → (r.1.st.length : Int) = (m.st.length : Int) - (mv x.1).1 + (mv x.1).2
theorem ExF.easy {E : En} {m : Mc} {x : Ins} {st : List Int} (ho : m.out.length ≤ 16) (h : (st.length : Int) = (m.st.length : Int) - (mv x.1).1 + (mv x.1).2) : ExF E m x ({ m with st := st }, 0) := ⟨rfl, rfl, rfl, rfl, rfl, rfl, rfl, ho, .inl rfl, fun _ => h⟩
theorem ExF.bad {E : En} {m : Mc} {x : Ins} {e : Int} (ho : m.out.length ≤ 16) (h : e = 201 ∨ e = 202 ∨ e = 203 ∨ e = 204) : ExF E m x (m, e) := ⟨rfl, rfl, rfl, rfl, rfl, rfl, rfl, ho, .inr h, fun h => by simp only at h; omega⟩
theorem ExF.put {E : En} {m : Mc} {x : Ins} {st : List Int} {i : Int} {p : Int × Int} (ho : m.out.length ≤ 16) (h : (st.length : Int) = (m.st.length : Int) - (mv x.1).1 + (mv x.1).2) : ExF E m x (putAt { m with st := st } i p) := by
  unfold putAt
  refine pite (P := ExF E m x) (fun _ => ⟨rfl, rfl, rfl, rfl, rfl, rfl, rfl, ho, by simp, fun h => by simp at h⟩) (fun _ => ⟨rfl, by simp, rfl, rfl, rfl, rfl, rfl, ho, .inl rfl, fun _ => h⟩)
theorem ex_f {E : En} {m : Mc} {x : Ins} (h0 : 0 ≤ x.1) (h37 : x.1 < 37) (n0 : x.1 ≠ 0) (n30 : x.1 ≠ 30) (n31 : x.1 ≠ 31) (n36 : x.1 ≠ 36) (hp : (mv x.1).1 ≤ (m.st.length : Int)) (ho : m.out.length ≤ 16) : ExF E m x (ex E m x) := by
  unfold ex
  refine pite (P := ExF E m x) (fun h => .easy ho (by rw [h] at hp ⊢; simp [mv] at hp ⊢)) fun n1 => ?_
  refine pite (P := ExF E m x) (fun h => .easy ho (by rw [h] at hp ⊢; simp [mv] at hp ⊢; omega)) fun n2 => ?_
  refine pite (P := ExF E m x) (fun h => .easy ho (by rw [h] at hp ⊢; simp [mv] at hp ⊢; omega)) fun n3 => ?_
  refine pite (P := ExF E m x) (fun h => .easy ho (by rw [h] at hp ⊢; simp [mv] at hp ⊢)) fun n4 => ?_
  refine pite (P := ExF E m x) (fun h => ⟨by simp, rfl, rfl, rfl, rfl, rfl, rfl, ho, .inl rfl, fun _ => (by rw [h] at hp ⊢; simp [mv] at hp ⊢; omega)⟩) fun n5 => ?_
  refine pite (P := ExF E m x) (fun h => .easy ho (by rw [h] at hp ⊢; simp [mv] at hp ⊢)) fun n6 => ?_
  refine pite (P := ExF E m x) (fun h => .easy ho (by rw [h] at hp ⊢; simp [mv] at hp ⊢)) fun n7 => ?_
  refine pite (P := ExF E m x) (fun h => .easy ho (by rw [h] at hp ⊢; simp [mv] at hp ⊢)) fun n8 => ?_
  refine pite (P := ExF E m x) (fun h => pite (P := ExF E m x) (fun _ => .bad ho (by simp)) fun _ => .easy ho (by rw [h] at hp ⊢; simp [mv] at hp ⊢; omega)) fun n9 => ?_
  refine pite (P := ExF E m x) (fun h => .easy ho (by rw [h] at hp ⊢; simp [mv] at hp ⊢; omega)) fun n20 => ?_
  refine pite (P := ExF E m x) (fun h => .easy ho (by rw [h] at hp ⊢; simp [mv] at hp ⊢; omega)) fun n21 => ?_
  refine pite (P := ExF E m x) (fun h => .put ho (by rw [h] at hp ⊢; simp [mv] at hp ⊢; omega)) fun n32 => ?_
  refine pite (P := ExF E m x) (fun h => ExF.put (st := m.st) ho (by rw [h] at hp ⊢; simp [mv] at hp ⊢)) fun n33 => ?_
  refine pite (P := ExF E m x) (fun h => .put ho (by rw [h] at hp ⊢; simp [mv] at hp ⊢; omega)) fun n34 => ?_
  refine pite (P := ExF E m x) (fun h => pite (P := ExF E m x) (fun _ => .bad ho (by simp)) fun h16 => ⟨rfl, rfl, rfl, rfl, rfl, rfl, rfl, by simp; omega, .inl rfl, fun _ => (by rw [h] at hp ⊢; simp [mv] at hp ⊢; omega)⟩) fun n35 => ?_
  have hm2 : mv x.1 = (2, 1) := mv2 h0 h37 n0 n1 n2 n3 n4 n5 n6 n7 n8 n9 n20 n21 n30 n31 n32 n33 n34 n35 n36
  rw [hm2] at hp
  have := two_f x.1 (m.st.tail.headD 0) (m.st.headD 0)
  unfold Flt at this
  refine ⟨rfl, rfl, rfl, rfl, rfl, rfl, rfl, ho, by simp only []; omega, fun _ => ?_⟩
  rw [hm2]
  simp at hp ⊢; omega
theorem step_at {E : En} {m : Mc} {x : Ins} (h : E.is[m.pc]? = some x) : step E m = act E (tick m) x := by
  unfold step
  rw [h]
theorem zs_len {d : Int} (h : 0 ≤ d) : ((zs d).length : Int) = d := by unfold zs; rw [List.length_replicate]; omega
theorem zp_len {d : Int} (h : 0 ≤ d) : ((zp d).length : Int) = d := by unfold zp; rw [List.length_replicate]; omega
theorem Sound.rng {E : En} (hS : Sound E) : (0 ≤ E.a ∧ E.a ≤ 16) ∧ (0 ≤ E.b ∧ E.b ≤ 16) ∧ (0 ≤ E.c ∧ E.c ≤ 16) ∧ (0 ≤ E.d ∧ E.d ≤ 16) ∧ E.is.length ≤ 256 := okP_rng (depths_ok0 hS.ok).1
theorem Iv.fault {E : En} {m : Mc} (hS : Sound E) (h : Iv E m) (hd : m.dn = false) {e u : Int} (he : 200 ≤ e ∧ e ≤ 204) (hu : e ≠ 200 → u = 0) : Iv E (fault E (tick m) e u) := by
  have hr := hS.rng
  obtain ⟨hlt, hq, _, _, hn⟩ := h.more hd
  obtain ⟨v, u', hv, hu', hle⟩ := h.far hd
  obtain ⟨hfw, _⟩ := fwd_of hS.ok
  obtain ⟨v', hv', h1, _⟩ := (longL_spec hfw).2 m.pc E.is[m.pc] (by simp)
  rw [hv] at hv'
  cases hv'
  refine ⟨zs_len hr.2.2.2.1.1, zp_len hr.2.2.1.1, by simp [Vm.fault, tick], h.pc, by simp [Vm.fault, tick]; omega, by simp [Vm.fault, tick], fun h => (by cases h), fun h => (by cases h), fun _ => ⟨⟨u', hu', by simp [Vm.fault, tick]; omega⟩, fun h => ?_, fun _ => ⟨rfl, rfl, rfl, rfl, he.1, he.2, hu⟩⟩⟩
  have h : e = 0 := h
  omega
theorem Iv.go {E : En} {m m' : Mc} {x : Ins} (hS : Sound E) (h : Iv E m) (hd : m.dn = false) (hx : E.is[m.pc]? = some x) {t : Nat} (ht : (t : Int) ∈ wy x m.pc) (h1 : m'.lo.length = m.lo.length) (h2 : m'.pu.length = m.pu.length) (h3 : m'.n = m.n + 1) (h4 : m'.cd = m.cd) (h5 : m'.us = m.us) (h6 : m'.out.length ≤ 16)
    (h7 : (m'.st.length : Int) = (m.st.length : Int) - (mv x.1).1 + (mv x.1).2) : Iv E (goto' E m' t) := by
  obtain ⟨x', hx', _, _, _, hp, h32, hw⟩ := h.at hS hd
  rw [hx] at hx'
  cases hx'
  obtain ⟨w1, w2, w3⟩ := hw t ht
  obtain ⟨hlt, hq, c0, u0, hn⟩ := h.more hd
  obtain ⟨v, u', hv, hu', hle⟩ := h.far hd
  obtain ⟨hfw, _⟩ := fwd_of hS.ok
  obtain ⟨v', hv', g1, g2⟩ := (longL_spec hfw).2 m.pc x hx
  rw [hv] at hv'
  cases hv'
  obtain ⟨u2, hu2, hle2⟩ := g2 t ht
  rw [Int.toNat_natCast] at hu2 w3
  refine ⟨by show (m'.lo.length : Int) = _; rw [h1]; exact h.lo, by show (m'.pu.length : Int) = _; rw [h2]; exact h.pu, h6, by show t ≤ _; omega, ?_, by show m'.st.length ≤ 32; omega, fun hdn => ⟨?_, ?_, ?_, ?_, ?_⟩, fun hdn => ⟨u2, u', hu2, hu', ?_⟩, fun hdn => ⟨⟨u', hu', ?_⟩, fun _ => ?_, fun hc => ?_⟩⟩
  · show m'.n ≤ t + _; omega
  · have : ¬ t = E.is.length := by simpa [goto'] using hdn
    show t < _; omega
  · show _ = some (m'.st.length : Int); rw [h7]; exact w3
  · show m'.cd = 0; rw [h4]; exact c0
  · show m'.us = 0; rw [h5]; exact u0
  · show m'.n ≤ t; omega
  · show (m'.n : Int) + u2 ≤ u'; omega
  · show (m'.n : Int) ≤ u'; omega
  · show m'.us = 0; rw [h5]; exact u0
  · exact absurd (by show m'.cd = 0; rw [h4]; exact c0) hc
theorem Iv.step {E : En} {m : Mc} (hS : Sound E) (h : Iv E m) (hd : m.dn = false) : Iv E (step E m) := by
  obtain ⟨x, hx, h0, h37, hins, hp, h32, hw⟩ := h.at hS hd
  obtain ⟨hlt, hq, c0, u0, hn⟩ := h.more hd
  obtain ⟨v, u', hv, hu', hle⟩ := h.far hd
  obtain ⟨hfw, _⟩ := fwd_of hS.ok
  obtain ⟨v', hv', g1, g2⟩ := (longL_spec hfw).2 m.pc x hx
  rw [hv] at hv'
  cases hv'
  rw [step_at hx]
  unfold act
  split
  · refine ⟨h.lo, h.pu, h.out, h.pc, by simp [tick]; omega, h.st, fun h => (by cases h), fun h => (by cases h), fun _ => ⟨⟨u', hu', by simp [tick]; omega⟩, fun _ => u0, fun hc => absurd c0 hc⟩⟩
  rename_i n0
  split
  · rename_i h30
    have hwy : wy x m.pc = [x.2] := by unfold wy; rw [if_neg (by omega), if_pos h30]
    have hx2 := hw x.2 (by rw [hwy]; simp)
    refine Iv.go hS h hd hx (t := x.2.toNat) (by rw [hwy, Int.toNat_of_nonneg (by omega)]; simp) rfl rfl rfl rfl rfl h.out ?_
    rw [h30]; simp [mv, tick]
  rename_i n30
  split
  · rename_i h31
    have hwy : wy x m.pc = [x.2, (m.pc : Int) + 1] := by unfold wy; rw [if_neg (by omega), if_neg (by omega), if_pos h31]
    have hx2 := hw x.2 (by rw [hwy]; simp)
    rw [h31] at hp
    refine Iv.go hS h hd hx (by
      rw [hwy]
      split
      · rw [Int.toNat_of_nonneg (by omega)]; simp
      · simp [tick]) rfl rfl rfl rfl rfl h.out ?_
    rw [h31]; simp [mv, tick] at hp ⊢; omega
  rename_i n31
  split
  · exact Iv.fault hS h hd (by omega) (fun h => absurd rfl h)
  rename_i n36
  obtain ⟨a1, a2, a3, a4, a5, a6, a7, a8, hf, hst⟩ := ex_f (E := E) (m := tick m) h0 h37 n0 n30 n31 n36 hp h.out
  split
  · exact Iv.fault hS h hd (by omega) (fun _ => rfl)
  · rename_i hz
    have hwy : wy x m.pc = [(m.pc : Int) + 1] := by unfold wy; rw [if_neg (by omega), if_neg n30, if_neg n31]
    exact Iv.go hS h hd hx (t := m.pc + 1) (by rw [hwy]; simp) a1 a2 a4 a6 a7 a8 (hst (Decidable.not_not.1 hz))
theorem Iv.init {E : En} (hS : Sound E) : Iv E (mc0 E) := by
  have hr := hS.rng
  obtain ⟨hl, h0, hsp⟩ := depths_spec hS.ok
  obtain ⟨hfw, _⟩ := fwd_of hS.ok
  have hll := (longL_spec hfw).1
  have hL0 : (longL E.is)[0]? = some (longL E.is)[0] := by simp
  refine ⟨zs_len hr.2.2.2.1.1, zp_len hr.2.2.1.1, by simp [mc0], by simp [mc0], by simp [mc0], by simp [mc0], fun hd => ⟨?_, h0, rfl, rfl, Nat.le_refl _⟩, fun _ => ⟨_, _, hL0, hL0, by simp [mc0]⟩, fun hd => ⟨⟨_, hL0, ?_⟩, fun _ => rfl, fun h => absurd rfl h⟩⟩
  · have : ¬ E.is.length = 0 := by simpa [mc0] using hd
    show 0 < _; omega
  · have he : E.is = [] := by have : E.is.length = 0 := by simpa [mc0] using hd
                              exact List.eq_nil_of_length_eq_zero this
    simp [mc0]
    show (0 : Int) ≤ (longL E.is)[0]
    have : longL E.is = [0] := by rw [he]; rfl
    simp [this]
/-- How many steps may come yet. -/
def left (E : En) (m : Mc) : Nat := if m.dn then 0 else E.is.length + 1 - m.pc
theorem left_step {E : En} {m : Mc} (hS : Sound E) (h : Iv E m) (hd : m.dn = false) : left E (step E m) < left E m := by
  obtain ⟨x, hx, h0, h37, hins, hp, h32, hw⟩ := h.at hS hd
  obtain ⟨hlt, _⟩ := h.more hd
  have base : left E m = E.is.length + 1 - m.pc := by unfold left; rw [hd]; rfl
  have done : ∀ m' : Mc, m'.dn = true → left E m' < left E m := fun m' hm => by
    rw [base]; unfold left; rw [hm]; simp; omega
  have goes : ∀ (m' : Mc) (t : Nat), (t : Int) ∈ wy x m.pc → left E (goto' E m' t) < left E m := fun m' t ht => by
    have := hw t ht
    rw [base]; unfold left goto'; simp only []
    split <;> omega
  rw [step_at hx]
  unfold act
  split
  · exact done _ rfl
  rename_i n0
  split
  · rename_i h30
    have hwy : wy x m.pc = [x.2] := by unfold wy; rw [if_neg (by omega), if_pos h30]
    have hx2 := hw x.2 (by rw [hwy]; simp [tick])
    exact goes _ _ (by rw [hwy, Int.toNat_of_nonneg (by omega)]; simp)
  rename_i n30
  split
  · rename_i h31
    have hwy : wy x m.pc = [x.2, (m.pc : Int) + 1] := by unfold wy; rw [if_neg (by omega), if_neg (by omega), if_pos h31]
    have hx2 := hw x.2 (by rw [hwy]; simp [tick])
    refine goes _ _ ?_
    rw [hwy]
    split
    · rw [Int.toNat_of_nonneg (by omega)]; simp
    · simp [tick]
  rename_i n31
  split
  · exact done _ rfl
  rename_i n36
  split
  · exact done _ rfl
  · have hwy : wy x m.pc = [(m.pc : Int) + 1] := by unfold wy; rw [if_neg (by omega), if_neg n30, if_neg n31]
    exact goes _ (m.pc + 1) (by rw [hwy]; simp [tick])
/-- The end of a machine's way. -/
def fin (E : En) : Nat → Mc → Mc
  | 0, m => m
  | k + 1, m => if m.dn then m else fin E k (Vm.step E m)
theorem fin_dn {E : En} {m : Mc} (h : m.dn = true) : ∀ k, fin E k m = m
  | 0 => rfl
  | k + 1 => by simp only [fin]; rw [if_pos h]
theorem fin_more {E : En} (hS : Sound E) : ∀ {k : Nat} {m : Mc}, Iv E m → left E m ≤ k → Iv E (fin E k m) ∧ (fin E k m).dn = true ∧ ∀ j, left E m ≤ j → fin E j m = fin E k m
  | 0, m, h, hk => by
    have hd : m.dn = true := by
      cases hd : m.dn with
      | true => rfl
      | false =>
        obtain ⟨hlt, _⟩ := h.more hd
        unfold left at hk; rw [hd] at hk; simp at hk; omega
    exact ⟨h, hd, fun j _ => fin_dn hd j⟩
  | k + 1, m, h, hk => by
    cases hd : m.dn with
    | true => rw [fin_dn hd]; exact ⟨h, hd, fun j _ => fin_dn hd j⟩
    | false =>
      have hl := left_step hS h hd
      obtain ⟨a, b, c⟩ := fin_more hS (k := k) (h.step hS hd) (by omega)
      have e : fin E (k + 1) m = fin E k (Vm.step E m) := by simp only [fin]; rw [if_neg (by simp [hd])]
      rw [e]
      refine ⟨a, b, fun j hj => ?_⟩
      cases j with
      | zero => omega
      | succ j =>
        show (if m.dn then m else fin E j (Vm.step E m)) = _
        rw [if_neg (by simp [hd])]
        exact c j (by omega)
/-- What a program does in the end. -/
def endOf (E : En) : Mc := fin E 257 (mc0 E)
theorem left0 {E : En} (hS : Sound E) : left E (mc0 E) ≤ 257 := by
  have := hS.rng
  unfold left; split <;> simp [mc0] <;> omega
theorem endOf_ok {E : En} (hS : Sound E) : Iv E (endOf E) ∧ (endOf E).dn = true := by
  have := fin_more hS (Iv.init hS) (left0 hS)
  exact ⟨this.1, this.2.1⟩
end Go.Vm
