/- Gt: what comes in, as a plain value: a shape for the types of a law's arguments, the plain value of a shape, what it is that cells hold it; opened from a row's reading once for all shapes. -/
import Derived.Test.YthgkehldimldgaaDoorRow
import Derived.Deep.Slices
import Derived.OpenShut
set_option linter.unusedVariables false
set_option linter.unusedSimpArgs false
namespace Go.Gt
open Go Go.Sh Go.Pl Go.Row Go.ChangeShapes Go.WideShapes Go.ChangeAt Go.RowKit
inductive G where
  | int (k : IntKind) | bool | str | bytes | sl (b : Nat) (g : G) | st (g : G) | pair (g h : G) | unit
def G.sz : G → Nat
  | .int _ => 1 | .bool => 1 | .str => 1 | .bytes => 1 | .sl _ _ => 1
  | .st g => g.sz
  | .pair g h => g.sz + h.sz
  | .unit => 0
def Mo : G → Type
  | .int _ => Int | .bool => Bool | .str => ByteArray | .bytes => List UInt8
  | .sl _ g => List (Mo g)
  | .st g => Mo g
  | .pair g h => Mo g × Mo h
  | .unit => Unit
abbrev atL {α : Type} (l : List α) (i : Nat) : Option α := l[i]?
/-- Cells hold a plain value. -/
def Rep (R : Nat) (w : World) : (g : G) → List Value → Mo g → Prop
  | .int k, cs, n => cs = [.int k n] ∧ (Lit.int k n).wf = true
  | .bool, cs, b => cs = [.bool b]
  | .str, cs, s => cs = [.string s] ∧ s.size ≤ R
  | .bytes, cs, bs => ∃ s : Slc, cs = [.slice s.a s.l s.c] ∧ Rd w s (U8 bs) ∧ (s.a = none → s.l = 0 ∧ s.c = 0) ∧ s.c ≤ R
  | .sl b g, cs, ms => ∃ s : Slc, cs = [.slice s.a s.l s.c] ∧ s.l = List.length (α := Mo g) ms ∧ s.l ≤ s.c ∧ (s.a = none → s.l = 0 ∧ s.c = 0) ∧ s.c * b ≤ R ∧
      ∀ (i : Nat) (m : Mo g), atL (α := Mo g) ms i = some m → ∃ ad es, s.a = some ad ∧ es.length = g.sz ∧ (∀ j, j < g.sz → w.cell? ((ad.add (i * g.sz)).add j) = es[j]?) ∧ Rep R w g es m
  | .st g, cs, m => Rep R w g cs m
  | .pair g h, cs, m => ∃ c1 c2, cs = c1 ++ c2 ∧ Rep R w g c1 m.1 ∧ Rep R w h c2 m.2
  | .unit, cs, _ => cs = []
def bulk : (g : G) → Mo g → Nat
  | .int _, _ => 1
  | .bool, _ => 1
  | .str, s => s.size + 1
  | .bytes, bs => bs.length + 1
  | .sl _ g, ms => (List.map (bulk g) ms).sum + 1
  | .st g, m => bulk g m + 1
  | .pair g h, m => bulk g m.1 + bulk h m.2
  | .unit, _ => 0
theorem Rep.chg {R : Nat} {w w' : World} (hc : Chg Nil w w') : ∀ {g : G} {cs : List Value} {m : Mo g}, Rep R w g cs m → Rep R w' g cs m
  | .int k, cs, n, h => by exact (show cs = [.int k n] ∧ (Lit.int k n).wf = true from h)
  | .bool, cs, b, h => by exact (show cs = [.bool b] from h)
  | .str, cs, s, h => by exact (show cs = [.string s] ∧ s.size ≤ R from h)
  | .bytes, cs, bs, ⟨s, h1, h2, h3, h4⟩ => ⟨s, h1, h2.chg hc fun _ _ h => h, h3, h4⟩
  | .sl b g, cs, ms, ⟨s, h1, h2, h3, h4, h5, h6⟩ => ⟨s, h1, h2, h3, h4, h5, fun i m hm => by
      obtain ⟨ad, es, g1, g2, g3, g4⟩ := h6 i m hm
      refine ⟨ad, es, g1, g2, fun j hj => ?_, g4.chg hc⟩
      have := g3 j hj
      have he : es[j]? = some (es[j]'(by omega)) := by simp
      rw [he] at this ⊢
      exact cell_chg hc this fun h => h⟩
  | .st g, cs, m, h => Rep.chg (g := g) hc h
  | .pair g h, cs, m, ⟨c1, c2, h1, h2, h3⟩ => ⟨c1, c2, h1, h2.chg hc, h3.chg hc⟩
  | .unit, cs, _, h => h
/-- An array's elements, as fields. -/
def arrF (P : Program) (n : Nat) (e : TypeId) : List Field := (List.range n).map fun i => ⟨"", e, i * P.cellsOf e, false, "", "", 0⟩
theorem arrF_at {P : Program} {n : Nat} {e : TypeId} {i : Nat} {f : Field} (h : (arrF P n e)[i]? = some f) : i < n ∧ f.type = e ∧ f.offset = i * P.cellsOf e := by
  unfold arrF at h
  rw [List.getElem?_map] at h
  cases hr : (List.range n)[i]? with
  | none => rw [hr] at h; cases h
  | some j =>
    rw [hr] at h
    have h1 := List.getElem?_eq_some_iff.1 hr
    obtain ⟨h1, h2⟩ := h1
    simp at h1 h2
    subst h2
    cases h
    exact ⟨h1, rfl, rfl⟩
theorem weights_rep {H : Type} {P : Program} {e : TypeId} : ∀ (l : List (DataW H)), DataW.weightsAll P e l = DataW.weightsEach P (List.replicate l.length e) l
  | [] => rfl
  | d :: r => by
    simp only [DataW.weightsAll, List.length_cons, List.replicate_succ, DataW.weightsEach]
    rw [weights_rep r]
/-- A type has a shape. -/
def okT (P : Program) : G → TypeId ⊕ (List Field × Nat) → Bool
  | .int k, .inl t => match P.underlying t with | some (.int k') => decide (k' = k) | _ => false
  | .bool, .inl t => match P.underlying t with | some .bool => true | _ => false
  | .str, .inl t => match P.underlying t with | some .string => true | _ => false
  | .bytes, .inl t => match P.underlying t with
    | some (.slice e) => (match P.underlying e with | some (.int .u8) => true | _ => false) && (P.cellsOf e == 1) && (P.bytesOf e == 1)
    | _ => false
  | .sl b g, .inl t => match P.underlying t with | some (.slice e) => (P.cellsOf e == g.sz) && (P.bytesOf e == b) && okT P g (.inl e) | _ => false
  | .st g, .inl t => match P.underlying t with | some (.struct fs) => (P.cellsOf t == g.sz) && okT P g (.inr (fs.toList, 0)) | some (.array n e) => (P.cellsOf t == g.sz) && okT P g (.inr (arrF P n e, 0)) | _ => false
  | .pair g h, .inr (f :: fs, off) => (f.offset == off) && (P.cellsOf f.type == g.sz) && okT P g (.inl f.type) && okT P h (.inr (fs, off + g.sz))
  | .unit, .inr ([], _) => true
  | _, _ => false
section
variable {H : Type} {enc : TypeId × Value → H} {P : Program}
/-- How a row reckons bulk. -/
structure UB (ub : DataW H → Nat) (uba : List (DataW H) → Nat) : Prop where
  one : ∀ d, 1 ≤ ub d
  str : ∀ bs, ub (.lit (.string bs)) = bs.length + 1
  slice : ∀ e s, ub (.slice e s) = uba e + uba s + 1
  agg : ∀ p, ub (.agg p) = uba p + 1
  nil : uba [] = 0
  cons : ∀ d r, uba (d :: r) = ub d + uba r
theorem UB.append {ub : DataW H → Nat} {uba : List (DataW H) → Nat} (U : UB ub uba) (a b : List (DataW H)) : uba (a ++ b) = uba a + uba b := by
  induction a with
  | nil => simp [U.nil]
  | cons d a ih => rw [List.cons_append, U.cons, ih, U.cons]; omega
theorem UB.length {ub : DataW H → Nat} {uba : List (DataW H) → Nat} (U : UB ub uba) (a : List (DataW H)) : a.length ≤ uba a := by
  induction a with
  | nil => simp
  | cons d a ih => have := U.one d; rw [U.cons, List.length_cons]; omega
theorem weights_all {e : TypeId} {l : List (DataW H)} {d : DataW H} (hd : d ∈ l) {x : Nat} (hx : x ∈ d.weights P e) : x ∈ DataW.weightsAll P e l := by
  induction l with
  | nil => cases hd
  | cons y l ih =>
    simp only [DataW.weightsAll, List.mem_append]
    rcases List.mem_cons.1 hd with rfl | h
    · exact .inl hx
    · exact .inr (ih h)
theorem rows_of {α : Type} {Q : Nat → α → Prop} {f : α → Nat} {ub : DataW H → Nat} {uba : List (DataW H) → Nat} (U : UB ub uba) {D : Nat → DataW H} : ∀ n, (∀ i, i < n → ∃ m, Q i m ∧ f m ≤ ub (D i)) →
    ∃ ms : List α, ms.length = n ∧ (∀ i m, ms[i]? = some m → Q i m) ∧ (ms.map f).sum ≤ uba ((List.range n).map D)
  | 0, _ => ⟨[], rfl, fun i m h => by simp at h, by simp⟩
  | n + 1, h => by
    obtain ⟨ms, h1, h2, h3⟩ := rows_of U n fun i hi => h i (by omega)
    obtain ⟨m, hm, hf⟩ := h n (by omega)
    refine ⟨ms ++ [m], by simp [h1], fun i x hx => ?_, ?_⟩
    · rcases Nat.lt_or_ge i n with hi | hi
      · rw [List.getElem?_append_left (by omega)] at hx; exact h2 i x hx
      · rw [List.getElem?_append_right (by omega)] at hx
        rcases Nat.eq_zero_or_pos (i - ms.length) with h0 | h0
        · rw [h0] at hx; simp at hx; subst hx
          have : i = n := by omega
          rw [this]; exact hm
        · rw [List.getElem?_eq_none (by simp; omega)] at hx; cases hx
    · rw [List.map_append, List.sum_append, List.range_succ, List.map_append, U.append]
      simp only [List.map_cons, List.map_nil, List.sum_cons, List.sum_nil, U.cons, U.nil]
      omega
def Opens (P : Program) (enc : TypeId × Value → H) (R : Nat) (w : World) (base : Nat) (held : Bool) (ub : DataW H → Nat) (uba : List (DataW H) → Nat) (g : G) : Prop :=
  (∀ (t : TypeId) (fuel : Nat) (cs : List Value) (x : DataW H × List MemPlace), okT P g (.inl t) = true → DataW.trod enc P w base (fun _ => true) held fuel t cs = some x → (x.1.weights P t).all (· ≤ R) = true → ∃ m, Rep R w g cs m ∧ bulk g m ≤ ub x.1) ∧
  ∀ (fs : List Field) (off n : Nat) (cs : List Value) (xs : List (DataW H × List MemPlace)), okT P g (.inr (fs, off)) = true → cs.length = off + g.sz → xs.length = fs.length →
    (∀ (i : Nat) (f : Field), fs[i]? = some f → DataW.trod enc P w base (fun _ => true) held n f.type ((cs.drop f.offset).take (P.cellsOf f.type)) = xs[i]?) →
    (DataW.weightsEach P (fs.map (·.type)) (xs.map (·.1))).all (· ≤ R) = true → ∃ m, Rep R w g (cs.drop off) m ∧ bulk g m ≤ uba (xs.map (·.1))
theorem opens {R : Nat} {w : World} {base : Nat} {held : Bool} {ub : DataW H → Nat} {uba : List (DataW H) → Nat} (U : UB ub uba) : ∀ g, Opens P enc R w base held ub uba g
  | .int k => ⟨fun t fuel cs x hok h hw => by
      simp only [okT] at hok
      split at hok
      · rename_i k' hu
        have := of_decide_eq_true hok
        subst this
        obtain ⟨n, rfl, rfl, hwf⟩ := DataW.trod_int hu h
        exact ⟨n, ⟨rfl, hwf⟩, U.one _⟩
      · (cases hok), fun fs off n cs xs hok => by cases fs <;> cases hok⟩
  | .bool => ⟨fun t fuel cs x hok h hw => by
      simp only [okT] at hok
      split at hok
      · rename_i hu
        obtain ⟨b, rfl, rfl⟩ := DataW.trod_bool hu h
        exact ⟨b, rfl, U.one _⟩
      · (cases hok), fun fs off n cs xs hok => by cases fs <;> cases hok⟩
  | .str => ⟨fun t fuel cs x hok h hw => by
      simp only [okT] at hok
      split at hok
      · rename_i hu
        obtain ⟨s, rfl, rfl, hs⟩ := DataW.trod_string hu h
        refine ⟨s, ⟨rfl, ?_⟩, ?_⟩
        · have := List.all_eq_true.1 hw s.data.toList.length (by simp [DataW.weights])
          simpa using this
        · rw [U.str]; show s.size + 1 ≤ _; simp
      · (cases hok), fun fs off n cs xs hok => by cases fs <;> cases hok⟩
  | .bytes => ⟨fun t fuel cs x hok h hw => by
      simp only [okT] at hok
      split at hok
      · rename_i e hu
        simp only [Bool.and_eq_true, beq_iff_eq] at hok
        obtain ⟨⟨h1, hc⟩, hb⟩ := hok
        split at h1
        · rename_i he
          obtain ⟨s, bs, rfl, hrd, hn, hlen⟩ := bytes_of_trod hu he hc h
          refine ⟨bs, ⟨s, rfl, hrd, hn, ?_⟩, ?_⟩
          · rcases hlen with ⟨hd, h0, h00⟩ | ⟨el, sp, hd, h3, h4⟩
            · omega
            · have := List.all_eq_true.1 hw ((el.length + sp.length) * 1) (by rw [hd]; simp [DataW.weights, hu, hb])
              have := of_decide_eq_true this
              omega
          · show bs.length + 1 ≤ _
            rcases hlen with ⟨hd, h0, h00⟩ | ⟨el, sp, hd, h3, h4⟩
            · have := U.one x.1; omega
            · have := U.length el; rw [hd, U.slice]; omega
        · cases h1
      · (cases hok), fun fs off n cs xs hok => by cases fs <;> cases hok⟩
  | .sl b g => ⟨fun t fuel cs x hok h hw => by
      simp only [okT] at hok
      split at hok
      · rename_i e hu
        simp only [Bool.and_eq_true, beq_iff_eq] at hok
        obtain ⟨⟨hc, hb⟩, hg⟩ := hok
        rcases Deep.open_slice hu h with ⟨rfl, rfl⟩ | ⟨a, len, cap, m, n, D, Pl, rfl, hbase, hlc, hmx, hm, rfl, hel⟩
        · exact ⟨([] : List (Mo g)), ⟨⟨none, 0, 0⟩, rfl, rfl, Nat.le_refl _, fun _ => ⟨rfl, rfl⟩, by simp, fun i m hm => by simp at hm⟩, U.one _⟩
        · simp only [if_true] at hm
          subst hm
          have hwe : ∀ i, i < len → ((D i).weights P e).all (· ≤ R) = true := fun i hi => List.all_eq_true.2 fun y hy => List.all_eq_true.1 hw y (by
            simp only [DataW.weights, hu]
            refine List.mem_cons_of_mem _ (List.mem_append_left _ (weights_all (d := D i) ?_ hy))
            exact List.mem_map.2 ⟨i, List.mem_range.2 hi, rfl⟩)
          obtain ⟨ms, h1, h2, h3⟩ := rows_of (α := Mo g) (f := bulk g) (D := D) U (Q := fun i m => ∃ es, es.length = g.sz ∧ (∀ j, j < g.sz → w.cell? ((a.add (i * g.sz)).add j) = es[j]?) ∧ Rep R w g es m) len fun i hi => by
            obtain ⟨cs', hcs, htr⟩ := hel i (by omega)
            obtain ⟨mm, hr, hbk⟩ := (opens U g).1 e n cs' _ hg htr (hwe i hi)
            obtain ⟨_, hl', hcell⟩ := World.cells?_some hcs
            rw [hc] at hl' hcell
            exact ⟨mm, ⟨cs', hl', hcell, hr⟩, hbk⟩
          refine ⟨(ms : List (Mo g)), ⟨⟨some a, len, m⟩, rfl, h1.symm, hlc, (fun h => by cases h), ?_, fun i mm hmm => ?_⟩, ?_⟩
          · have := List.all_eq_true.1 hw _ (by simp only [DataW.weights, hu]; exact List.mem_cons_self ..)
            have := of_decide_eq_true this
            simp only [List.length_map, List.length_range] at this
            rw [hb, show len + (m - len) = m by omega] at this
            exact this
          · obtain ⟨es, g1, g2, g3⟩ := h2 i mm hmm
            exact ⟨a, es, rfl, g1, g2, g3⟩
          · show (ms.map (bulk g)).sum + 1 ≤ _
            rw [U.slice]; omega
      · (cases hok), fun fs off n cs xs hok => by cases fs <;> cases hok⟩
  | .st g => ⟨fun t fuel cs x hok h hw => by
      simp only [okT] at hok
      split at hok
      · rename_i fs hu
        simp only [Bool.and_eq_true, beq_iff_eq] at hok
        obtain ⟨hc, hg⟩ := hok
        obtain ⟨xs, n, _, rfl, hl, hlen, hf⟩ := DataW.trod_struct hu h
        obtain ⟨m, hr, hb⟩ := (opens U g).2 fs.toList 0 n cs xs hg (by omega) (by simpa using hlen) (fun i f hif => hf i f (by simpa using hif)) (by
          have : (DataW.weights P t (.agg (xs.map (·.1)))) = DataW.weightsEach P (fs.toList.map (·.type)) (xs.map (·.1)) := by simp [DataW.weights, hu]
          rwa [this] at hw)
        refine ⟨m, (by simpa using hr : Rep R w g cs m), ?_⟩
        show bulk g m + 1 ≤ _
        rw [U.agg]; omega
      · rename_i k e hu
        simp only [Bool.and_eq_true, beq_iff_eq] at hok
        obtain ⟨hc, hg⟩ := hok
        obtain ⟨xs, n, _, rfl, hl, hlen, hf⟩ := DataW.trod_array hu h
        have hal : (arrF P k e).length = k := by simp [arrF]
        obtain ⟨m, hr, hb⟩ := (opens U g).2 (arrF P k e) 0 n cs xs hg (by omega) (by rw [hlen, hal]) (fun i f hif => by
            obtain ⟨h1, h2, h3⟩ := arrF_at hif
            rw [h2, h3]
            exact hf i h1) (by
          have h1 : (DataW.weights P t (.agg (xs.map (·.1)))) = DataW.weightsAll P e (xs.map (·.1)) := by simp [DataW.weights, hu]
          have h2 : (arrF P k e).map (·.type) = List.replicate (xs.map (·.1)).length e := by
            rw [List.length_map, hlen]
            refine List.eq_replicate_iff.2 ⟨by simp [hal], fun b hb => ?_⟩
            obtain ⟨f, hf, rfl⟩ := List.mem_map.1 hb
            obtain ⟨i, hi⟩ := List.getElem?_of_mem hf
            exact (arrF_at hi).2.1
          rw [h1, weights_rep, ← h2] at hw
          exact hw)
        refine ⟨m, (by simpa using hr : Rep R w g cs m), ?_⟩
        show bulk g m + 1 ≤ _
        rw [U.agg]; omega
      · (cases hok), fun fs off n cs xs hok => by cases fs <;> cases hok⟩
  | .pair g h => ⟨fun t fuel cs x hok => by (cases hok), fun fs off n cs xs hok hl hxl hf hw => by
      cases fs with
      | nil => cases hok
      | cons f fs =>
        cases xs with
        | nil => simp at hxl
        | cons x xs =>
          simp only [okT, Bool.and_eq_true, beq_iff_eq] at hok
          obtain ⟨⟨⟨ho, hc⟩, hg⟩, hh⟩ := hok
          simp only [G.sz] at hl
          simp only [List.map_cons, DataW.weightsEach, List.all_append, Bool.and_eq_true] at hw
          have h0 := hf 0 f rfl
          simp only [List.getElem?_cons_zero] at h0
          obtain ⟨m1, hr1, hb1⟩ := (opens U g).1 f.type n _ x hg h0 hw.1
          obtain ⟨m2, hr2, hb2⟩ := (opens U h).2 fs (off + g.sz) n cs xs hh (by omega) (by simpa using hxl) (fun i f' hi => by simpa using hf (i + 1) f' (by simpa using hi)) hw.2
          rw [ho, hc] at hr1
          refine ⟨(m1, m2), ⟨_, _, ?_, hr1, hr2⟩, ?_⟩
          · rw [← List.drop_drop, List.take_append_drop]
          · show bulk g m1 + bulk h m2 ≤ _
            rw [List.map_cons, U.cons]; omega⟩
  | .unit => ⟨fun t fuel cs x hok => by (cases hok), fun fs off n cs xs hok hl hxl hf hw => by
      cases fs with
      | cons f fs => cases hok
      | nil =>
        refine ⟨(), ?_, Nat.zero_le _⟩
        simp only [G.sz] at hl
        show cs.drop off = []
        exact List.drop_eq_nil_of_le (by omega)⟩
end
end Go.Gt
namespace Go.Gt
open Go Go.Sh Go.Pl Go.Row Go.ChangeShapes Go.WideShapes Go.ChangeAt Go.RowKit
/-- A value of a shape, as a call is handed it. -/
def RepV (R : Nat) (w : World) : (g : G) → Value → Mo g → Prop
  | .st g, v, m => ∃ cs : List Value, v = .agg cs.toArray ∧ Rep R w g cs m
  | g, v, m => Rep R w g [v] m
def RepA (R : Nat) (w : World) : (g : G) → List Value → Mo g → Prop
  | .pair g h, vs, m => ∃ v r, vs = v :: r ∧ RepV R w g v m.1 ∧ RepA R w h r m.2
  | .unit, vs, _ => vs = []
  | _, _, _ => False
def okA (P : Program) : G → List TypeId → Bool
  | .pair g h, t :: ts => okT P g (.inl t) && okA P h ts
  | .unit, [] => true
  | _, _ => false
section
variable {H : Type} {enc : TypeId × Value → H} {P : Program}
theorem repV_of {R : Nat} {w : World} {base b0 : Nat} {r : Reach} {held : Bool} {ub : DataW H → Nat} {uba : List (DataW H) → Nat} (U : UB ub uba) {g : G} {t : TypeId} {v : Value} {d : DataW H} {ps : List MemPlace} (hok : okT P g (.inl t) = true)
    (hval : Value.okWide P w r b0 t v) (hd : DataW.Trod enc P w base (fun _ => true) held t v d ps) (hw : (d.weights P t).all (· ≤ R) = true) : ∃ m, RepV R w g v m ∧ bulk g m ≤ ub d := by
  obtain ⟨fuel, hf⟩ := hd
  obtain ⟨m, hr, hb⟩ := (opens U g).1 t fuel _ _ hok hf hw
  refine ⟨m, ?_, hb⟩
  cases g with
  | int k =>
    simp only [okT] at hok
    split at hok
    · rename_i k' hu
      obtain ⟨n, rfl⟩ := okWide_int hu hval
      exact hr
    · cases hok
  | bool =>
    simp only [okT] at hok
    split at hok
    · rename_i hu
      obtain ⟨n, rfl⟩ := okWide_bool hu hval
      exact hr
    · cases hok
  | str =>
    simp only [okT] at hok
    split at hok
    · rename_i hu
      obtain ⟨n, rfl⟩ := okWide_string hu hval
      exact hr
    · cases hok
  | bytes =>
    simp only [okT] at hok
    split at hok
    · rename_i e hu
      obtain ⟨a, l, c, rfl⟩ := okWide_slice hu hval
      exact hr
    · cases hok
  | sl b g =>
    simp only [okT] at hok
    split at hok
    · rename_i e hu
      obtain ⟨a, l, c, rfl⟩ := okWide_slice hu hval
      exact hr
    · cases hok
  | st g =>
    simp only [okT] at hok
    split at hok
    · rename_i fs hu
      obtain ⟨cs, rfl, _⟩ := okWide_struct hu hval
      exact ⟨cs.toList, by simp, hr⟩
    · rename_i k e hu
      have hv : ∃ cs, v = .agg cs := by
        simp only [Value.okWide, hu] at hval
        obtain ⟨cs, h1, _⟩ := hval
        exact ⟨cs, h1⟩
      obtain ⟨cs, rfl⟩ := hv
      exact ⟨cs.toList, by simp, hr⟩
    · cases hok
  | pair g h => cases hok
  | unit => cases hok
theorem repA_of {R : Nat} {w : World} {base b0 : Nat} {r : Reach} {held : Bool} {ub : DataW H → Nat} {uba : List (DataW H) → Nat} (U : UB ub uba) : ∀ {g : G} {ts : List TypeId} {vs : List Value} {ds : List (DataW H)} {ps : List MemPlace}, okA P g ts = true →
    (∀ (j : Nat) t v, ts[j]? = some t → vs[j]? = some v → Value.okWide P w r b0 t v) → DataW.TrodAll enc P w base (fun _ => true) held ts vs ds ps → (DataW.weightsEach P ts ds).all (· ≤ R) = true → ∃ m, RepA R w g vs m ∧ bulk g m ≤ uba ds
  | .unit, [], vs, ds, ps, hok, hval, hA, hw => by
      cases vs <;> cases ds <;> first | exact ⟨(), rfl, Nat.zero_le _⟩ | exact hA.elim
  | .pair g h, t :: ts, vs, ds, ps, hok, hval, hA, hw => by
      simp only [okA, Bool.and_eq_true] at hok
      cases vs with
      | nil => cases ds <;> exact hA.elim
      | cons v vs =>
        cases ds with
        | nil => exact hA.elim
        | cons d ds =>
          obtain ⟨p, q, h1, h2, rfl⟩ := hA
          simp only [DataW.weightsEach, List.all_append, Bool.and_eq_true] at hw
          obtain ⟨m1, r1, b1⟩ := repV_of U hok.1 (hval 0 t v rfl rfl) h1 hw.1
          obtain ⟨m2, r2, b2⟩ := repA_of U hok.2 (fun j t' v' ht hv => hval (j + 1) t' v' (by simpa using ht) (by simpa using hv)) h2 hw.2
          refine ⟨(m1, m2), ⟨v, vs, rfl, r1, r2⟩, ?_⟩
          show bulk g m1 + bulk h m2 ≤ _
          rw [U.cons]; omega
  | .unit, _ :: _, _, _, _, hok, _, _, _ => by cases hok
  | .pair _ _, [], _, _, _, hok, _, _, _ => by cases hok
  | .int _, _, _, _, _, hok, _, _, _ => by (unfold okA at hok; cases hok)
  | .bool, _, _, _, _, hok, _, _, _ => by (unfold okA at hok; cases hok)
  | .str, _, _, _, _, hok, _, _, _ => by (unfold okA at hok; cases hok)
  | .bytes, _, _, _, _, hok, _, _, _ => by (unfold okA at hok; cases hok)
  | .sl _ _, _, _, _, _, hok, _, _, _ => by (unfold okA at hok; cases hok)
  | .st _, _, _, _, _, hok, _, _, _ => by (unfold okA at hok; cases hok)
end
end Go.Gt
namespace Go.Proofs.YthgkehldimldgaaDoor
open Go Go.Gt
theorem bulks {H : Type} : UB (H := H) Rows.uptoBulk Rows.uptoBulkAll where
  one := fun d => by
    cases d with
    | lit l => cases l <;> simp [Rows.uptoBulk]
    | nil => simp [Rows.uptoBulk]
    | ptr d => simp [Rows.uptoBulk]
    | slice elems spare => simp [Rows.uptoBulk]
    | agg parts => simp [Rows.uptoBulk]
    | iface t d => simp [Rows.uptoBulk]
    | map entries => simp [Rows.uptoBulk]
    | held h => simp [Rows.uptoBulk]
  str := fun bs => by simp [Rows.uptoBulk]
  slice := fun e s => by simp [Rows.uptoBulk]
  agg := fun p => by simp [Rows.uptoBulk]
  nil := by simp [Rows.uptoBulkAll]
  cons := fun d r => by simp [Rows.uptoBulkAll]
end Go.Proofs.YthgkehldimldgaaDoor
