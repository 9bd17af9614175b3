/- Dep: looking a program over, plainly: limits, arguments, depths, longest way. -/
set_option linter.unusedVariables false
set_option linter.unusedSimpArgs false
namespace Go.Lang
abbrev Ins := Int × Int
def okP (a b c d : Int) (n : Nat) : Bool := decide (0 ≤ a ∧ a ≤ 16) && decide (0 ≤ b ∧ b ≤ 16) && decide (0 ≤ c ∧ c ≤ 16) && decide (0 ≤ d ∧ d ≤ 16) && decide (n ≤ 256)
/-- How many values an instruction takes, how many it leaves. -/
def mv (op : Int) : Int × Int :=
  if op = 0 ∨ op = 30 ∨ op = 33 then (0, 0) else if op = 1 ∨ op = 4 ∨ op = 6 ∨ op = 7 ∨ op = 8 then (0, 1) else
  if op = 2 ∨ op = 5 ∨ op = 31 ∨ op = 32 ∨ op = 35 ∨ op = 36 then (1, 0) else if op = 9 ∨ op = 20 ∨ op = 21 then (1, 1) else
  if op = 3 then (1, 2) else if op = 34 then (2, 0) else (2, 1)
/-- Where it goes to. -/
def wy (x : Ins) (i : Nat) : List Int := if x.1 = 0 ∨ x.1 = 36 then [] else if x.1 = 30 then [x.2] else if x.1 = 31 then [x.2, (i : Int) + 1] else [(i : Int) + 1]
/-- What its argument must lie below. -/
def mostA (a b c d op : Int) : Int := if op = 4 ∨ op = 5 then d else if op = 6 then a else if op = 7 ∨ op = 8 then b else if op = 32 ∨ op = 33 then c else 1
def argE (a b c d : Int) (n : Nat) (x : Ins) (i : Nat) : Int :=
  if x.1 = 1 then 0 else if x.1 = 30 ∨ x.1 = 31 then (if x.2 ≤ (i : Int) ∨ x.2 > (n : Int) then 33 else 0) else if 0 ≤ x.2 ∧ x.2 < mostA a b c d x.1 then 0 else 32
def insE (a b c d : Int) (n : Nat) (x : Ins) (i : Nat) : Int := if x.1 < 0 ∨ x.1 ≥ 37 then 31 else argE a b c d n x i
/-- The first thing wrong with an instruction, from a place on. -/
def chk (a b c d : Int) (n : Nat) : List Ins → Nat → Int
  | [], _ => 0
  | x :: r, i => if insE a b c d n x i ≠ 0 then insE a b c d n x i else chk a b c d n r (i + 1)
theorem chk_ways {a b c d : Int} {n : Nat} : ∀ {l : List Ins} {i : Nat}, chk a b c d n l i = 0 → i + l.length ≤ n → ∀ (k : Nat) (x : Ins), l[k]? = some x → (0 ≤ x.1 ∧ x.1 < 37) ∧ ∀ t ∈ wy x (i + k), (i : Int) + k < t ∧ t ≤ n := by
  intro l
  induction l with
  | nil => intro i _ _ k x hx; simp at hx
  | cons y r ih =>
    intro i h hl k x hx
    simp only [chk] at h
    simp only [List.length_cons] at hl
    by_cases he : insE a b c d n y i ≠ 0
    · rw [if_pos he] at h; exact absurd h he
    · rw [if_neg he] at h
      have he : insE a b c d n y i = 0 := by omega
      cases k with
      | zero =>
        simp at hx
        subst hx
        unfold insE at he
        split at he
        · cases he
        · rename_i hr
          refine ⟨by omega, fun t ht => ?_⟩
          unfold wy at ht
          unfold argE at he
          split at ht
          · cases ht
          · split at ht
            · rename_i h30
              rw [if_neg (by omega), if_pos (by omega)] at he
              split at he
              · cases he
              · simp at ht; subst ht; omega
            · split at ht
              · rename_i h31
                rw [if_neg (by omega), if_pos (by omega)] at he
                split at he
                · cases he
                · simp at ht
                  rcases ht with rfl | rfl <;> omega
              · simp at ht; omega
      | succ k =>
        have := ih h (by omega) k x (by simpa using hx)
        refine ⟨this.1, fun t ht => ?_⟩
        rw [show i + (k + 1) = i + 1 + k by omega] at ht
        have := this.2 t ht
        omega
/-- A depth is laid down at a place. -/
def put1 (m : Int) (d : List Int) (j : Int) : Option (List Int) := match d[j.toNat]? with
  | some x => if 0 ≤ x ∧ x ≠ m then none else some (d.set j.toNat m)
  | none => none
def putAll (m : Int) : List Int → List Int → Option (List Int)
  | [], d => some d
  | j :: r, d => (put1 m d j).bind (putAll m r)
theorem put1_len {m : Int} {d d' : List Int} {j : Int} (h : put1 m d j = some d') : d'.length = d.length := by
  unfold put1 at h
  split at h
  · split at h
    · cases h
    · cases h; simp
  · cases h
theorem putAll_len {m : Int} : ∀ {l d d' : List Int}, putAll m l d = some d' → d'.length = d.length
  | [], d, d', h => by cases h; rfl
  | j :: r, d, d', h => by
    simp only [putAll] at h
    cases hp : put1 m d j with
    | none => rw [hp] at h; cases h
    | some e => rw [hp] at h; rw [putAll_len h, put1_len hp]
theorem putAll_swap (m : Int) (d : List Int) (i j : Int) : putAll m [i, j] d = putAll m [j, i] d := by
  have one : ∀ e j, putAll m [j] e = put1 m e j := fun e j => by
    show (put1 m e j).bind _ = _
    cases put1 m e j <;> rfl
  show (put1 m d i).bind (putAll m [j]) = (put1 m d j).bind (putAll m [i])
  by_cases hij : i.toNat = j.toNat
  · have e : ∀ e, put1 m e i = put1 m e j := fun e => by unfold put1; rw [hij]
    rw [e]
    cases hp : put1 m d j with
    | none => rfl
    | some e1 => show putAll m [j] e1 = putAll m [i] e1; rw [one, one, e]
  · have key : ∀ a b : Int, a.toNat ≠ b.toNat → (put1 m d a).bind (putAll m [b]) = match d[a.toNat]?, d[b.toNat]? with
        | some x, some y => if (0 ≤ x ∧ x ≠ m) ∨ (0 ≤ y ∧ y ≠ m) then none else some ((d.set a.toNat m).set b.toNat m)
        | _, _ => none := fun a b hab => by
      unfold put1
      cases ha : d[a.toNat]? with
      | none => rfl
      | some x =>
        simp only
        by_cases hx : 0 ≤ x ∧ x ≠ m
        · rw [if_pos hx]
          cases d[b.toNat]? with
          | none => rfl
          | some y => simp only []; rw [if_pos (Or.inl hx)]; rfl
        · rw [if_neg hx, Option.bind_some, one]
          unfold put1
          rw [List.getElem?_set_ne hab]
          cases d[b.toNat]? with
          | none => rfl
          | some y => simp only [hx, false_or]
    rw [key i j hij, key j i (Ne.symm hij)]
    cases d[i.toNat]? with
    | none => cases d[j.toNat]? <;> rfl
    | some x =>
      cases d[j.toNat]? with
      | none => rfl
      | some y =>
        simp only
        rw [List.set_comm _ _ hij]
        by_cases h1 : 0 ≤ x ∧ x ≠ m <;> by_cases h2 : 0 ≤ y ∧ y ≠ m <;> simp [h1, h2]
def stepD (c : List Ins) (d : List Int) (i : Nat) : Option (List Int) := match c[i]?, d[i]? with
  | some x, some q => if q < 0 then some d else if q < (mv x.1).1 ∨ q - (mv x.1).1 + (mv x.1).2 > 32 then none else putAll (q - (mv x.1).1 + (mv x.1).2) (wy x i) d
  | _, _ => none
theorem stepD_len {c : List Ins} {d d' : List Int} {i : Nat} (h : stepD c d i = some d') : d'.length = d.length := by
  unfold stepD at h
  split at h
  · split at h
    · cases h; rfl
    · split at h
      · cases h
      · exact putAll_len h
  · cases h
def walkD (c : List Ins) : Nat → List Int → Nat → Option (List Int)
  | 0, d, _ => some d
  | k + 1, d, i => (stepD c d i).bind fun d => walkD c k d (i + 1)
theorem walkD_len {c : List Ins} : ∀ {k : Nat} {d d' : List Int} {i : Nat}, walkD c k d i = some d' → d'.length = d.length
  | 0, d, d', i, h => by cases h; rfl
  | k + 1, d, d', i, h => by
    simp only [walkD] at h
    cases hs : stepD c d i with
    | none => rw [hs] at h; cases h
    | some e => rw [hs] at h; rw [walkD_len h, stepD_len hs]
def d0 (n : Nat) : List Int := 0 :: List.replicate n (-1)
/-- The depths ahead of each place, or what is wrong. -/
def depths (a b c d : Int) (l : List Ins) : List Int × Int :=
  if okP a b c d l.length = false then ([], 30) else if chk a b c d l.length l 0 ≠ 0 then ([], chk a b c d l.length l 0) else
    match walkD l l.length (d0 l.length) 0 with
    | some e => (e, 0)
    | none => ([], 34)
/-- The longest way from each place on: from the end to the front. -/
def most1 (e : List Int) : List Int → Int → Int
  | [], m => m
  | j :: r, m => most1 e r (max m (e[j.toNat]?.getD 0))
def walkL (c : List Ins) : Nat → List Int → List Int
  | 0, e => e
  | k + 1, e => walkL c k (e.set k ((match c[k]? with | some x => most1 e (wy x k) 0 | none => 0) + 1))
def longest (a b c d : Int) (l : List Ins) : Int × Int :=
  if (depths a b c d l).2 ≠ 0 then (0, (depths a b c d l).2) else ((walkL l l.length (List.replicate (l.length + 1) 0))[0]?.getD 0, 0)
end Go.Lang
