/- Shf: a shelf: groups of rows, each row memory of its own, no two of one block. -/
import Derived.Test.YtlnhecbgjjglfaaShelf
import Derived.Test.YtlnhecbgjjglfaaFr2
set_option linter.unusedVariables false
set_option linter.unusedSimpArgs false
namespace Go.Pl
open Go Go.Sh Go.RowKit
abbrev slV (s : Slc) : Value := .slice s.a s.l s.c
/-- Element x of a row of one's own is written. -/
theorem Own.st1 {w : World} {e : TypeId} {s : Slc} {vs : List Value} {x : Nat} {x' : Int} {v : Value} {K : World → Prop} (h : Own w e 1 s vs) (hx : x < s.l) (hx' : x' = (x : Int))
    (hK : ∀ w', Own w' e 1 s (vs.set x v) → Ch [blkOf s] w w' → w'.heap.size = w.heap.size → K w') : idxP s.a s.l x' 1 fun a => stP a v w K := by
  subst hx'
  rcases h.2 with ⟨hs, hn⟩ | ⟨g, cap, cur, hs, hb, hg, hnc, hcm, hcs, htake⟩
  · omega
  · have hs' := hs
    injection hs with e1 e2 e3
    refine idxP_intro (by omega) (by omega) e1 ?_
    have hxs : x < cur.size := by rw [hcs]; omega
    rw [Int.toNat_natCast, Nat.mul_one]
    refine stB hg hxs fun w' hc hb' hz => hK w' ⟨by rw [List.length_set]; exact h.1, .inr ⟨g, cap, _, hs', hb, hb', hnc, hcm, by simpa using hcs, ?_⟩⟩ (by simpa [blkOf, e1] using hc) hz
    rw [Array.toList_setIfInBounds, List.take_set, htake]
theorem Own.st2 {w : World} {e : TypeId} {s : Slc} {vs : List Value} {x : Nat} {x' : Int} {v0 v1 : Value} {K : World → Prop} (h : Own w e 2 s vs) (hx : x < s.l) (hx' : x' = (x : Int))
    (hK : ∀ w', Own w' e 2 s ((vs.set (x * 2) v0).set (x * 2 + 1) v1) → Ch [blkOf s] w w' → w'.heap.size = w.heap.size → K w') : idxP s.a s.l x' 2 fun a => stP a v0 w fun w1 => stP (a.add 1) v1 w1 K := by
  subst hx'
  rcases h.2 with ⟨hs, hn⟩ | ⟨g, cap, cur, hs, hb, hg, hnc, hcm, hcs, htake⟩
  · omega
  · have hs' := hs
    injection hs with e1 e2 e3
    refine idxP_intro (by omega) (by omega) e1 ?_
    rw [Int.toNat_natCast]
    refine stB hg (by omega) fun w1 hc1 hb1 hz1 => ?_
    rw [Deep.add_add]
    refine stB hb1 (by simp; omega) fun w' hc hb' hz => hK w' ⟨by rw [List.length_set, List.length_set]; exact h.1, .inr ⟨g, cap, _, hs', hb, hb', hnc, hcm, by simpa using hcs, ?_⟩⟩ (by simpa [blkOf, e1] using hc1.tr hc) (by omega)
    rw [Array.toList_setIfInBounds, List.take_set, Array.toList_setIfInBounds, List.take_set, htake]
theorem Own.st4 {w : World} {e : TypeId} {s : Slc} {vs : List Value} {x : Nat} {x' : Int} {v0 v1 v2 v3 : Value} {K : World → Prop} (h : Own w e 4 s vs) (hx : x < s.l) (hx' : x' = (x : Int))
    (hK : ∀ w', Own w' e 4 s ((((vs.set (x * 4) v0).set (x * 4 + 1) v1).set (x * 4 + 2) v2).set (x * 4 + 3) v3) → Ch [blkOf s] w w' → w'.heap.size = w.heap.size → K w') : idxP s.a s.l x' 4 fun a => stP a v0 w fun w1 => stP (a.add 1) v1 w1 fun w2 => stP (a.add 2) v2 w2 fun w3 => stP (a.add 3) v3 w3 K := by
  subst hx'
  rcases h.2 with ⟨hs, hn⟩ | ⟨g, cap, cur, hs, hb, hg, hnc, hcm, hcs, htake⟩
  · omega
  · have hs' := hs
    injection hs with e1 e2 e3
    refine idxP_intro (by omega) (by omega) e1 ?_
    rw [Int.toNat_natCast]
    refine stB hg (by omega) fun w1 hc1 hb1 hz1 => ?_
    rw [Deep.add_add]
    refine stB hb1 (by simp; omega) fun w2 hc2 hb2 hz2 => ?_
    rw [Deep.add_add]
    refine stB hb2 (by simp; omega) fun w3 hc3 hb3 hz3 => ?_
    rw [Deep.add_add]
    refine stB hb3 (by simp; omega) fun w' hc hb' hz => hK w' ⟨by simp only [List.length_set]; exact h.1, .inr ⟨g, cap, _, hs', hb, hb', hnc, hcm, by simpa using hcs, ?_⟩⟩ (by simpa [blkOf, e1] using ((hc1.tr hc2).tr hc3).tr hc) (by omega)
    simp only [Array.toList_setIfInBounds, List.take_set, htake]
/-- A group of rows: its header and the rows' cells. -/
structure GS where
  hs : Slc
  rows : List Slc
  vss : List (List Value)
def GS.push (g : GS) (hs' r : Slc) (vs : List Value) : GS := ⟨hs', g.rows ++ [r], g.vss ++ [vs]⟩
def GS.set (g : GS) (i : Nat) (vs : List Value) : GS := ⟨g.hs, g.rows, g.vss.set i vs⟩
def upG (G : Nat → GS) (o : Nat) (g : GS) : Nat → GS := fun q => if q = o then g else G q
theorem upG_same (G : Nat → GS) (o : Nat) (g : GS) : upG G o g o = g := if_pos rfl
theorem upG_ne {G : Nat → GS} {o q : Nat} {g : GS} (h : q ≠ o) : upG G o g q = G q := if_neg h
/-- What the groups are of: the rows' type, the elements' type, the elements' size. -/
structure ShT where
  ts : TypeId
  te : Nat → TypeId
  e : Nat → TypeId
  sz : Nat → Nat
structure Shf (T : ShT) (D : Nat → Prop) (w : World) (k0 : Nat) (f : Nat → Nat) (G : Nat → GS) : Prop where
  blk : Blk w k0 #[slV (G 0).hs, slV (G 1).hs, slV (G 2).hs, slV (G 3).hs, slV (G 4).hs] T.ts
  d0 : D k0
  f0 : f k0 = 0
  own : ∀ o, o < 5 → Own w (T.te o) 1 (G o).hs ((G o).rows.map slV)
  fh : ∀ o, o < 5 → ∀ k, blkOf (G o).hs = some k → D k ∧ f k = o + 1
  len : ∀ o, o < 5 → (G o).rows.length = (G o).vss.length
  row : ∀ o, o < 5 → ∀ (i : Nat) (r : Slc) (vs : List Value), (G o).rows[i]? = some r → (G o).vss[i]? = some vs → Own w (T.e o) (T.sz o) r vs
  fr : ∀ o, o < 5 → ∀ (i : Nat) (r : Slc) (k : Nat), (G o).rows[i]? = some r → blkOf r = some k → D k ∧ f k = 7 + 5 * i + o
section
variable {T : ShT} {D : Nat → Prop} {w w' : World} {k0 : Nat} {f : Nat → Nat} {G : Nat → GS}
theorem Shf.ch0 (h : Shf T D w k0 f G) (hc : Ch [] w w') : Shf T D w' k0 f G :=
  ⟨h.blk.ch0 hc, h.d0, h.f0, fun o ho => (h.own o ho).ch hc fun _ _ h => h, h.fh, h.len, fun o ho i r vs h1 h2 => (h.row o ho i r vs h1 h2).ch hc fun _ _ h => h, h.fr⟩
/-- The header of a group is read. -/
theorem Shf.hd (h : Shf T D w k0 f G) {o : Nat} (ho : o < 5) {K : Slc → Prop} (hK : K (G o).hs) : ldS ((⟨k0, 0, none⟩ : Addr).add o) w K :=
  ldS_b (s := (G o).hs) h.blk (by
    rcases (by omega : o = 0 ∨ o = 1 ∨ o = 2 ∨ o = 3 ∨ o = 4) with rfl | rfl | rfl | rfl | rfl <;> rfl) hK
theorem Shf.hl (h : Shf T D w k0 f G) {o : Nat} (ho : o < 5) : (G o).hs.l = (G o).rows.length := by
  have := (h.own o ho).len
  simp at this
  exact this.symm
/-- A row is read off its header. -/
theorem Shf.at_ (h : Shf T D w k0 f G) {o i : Nat} (ho : o < 5) {r : Slc} (hr : (G o).rows[i]? = some r) {i' : Int} (hi : i' = (i : Int)) {K : Slc → Prop} (hK : K r) : idxP (G o).hs.a (G o).hs.l i' 1 fun a => ldS a w K := by
  have hlt : i < (G o).rows.length := (List.getElem?_eq_some_iff.1 hr).1
  refine (h.own o ho).rd.idx (by omega) (by simp; omega) fun ad had => ldS_of (s := r) ?_ hK
  rw [had, hi, Int.toNat_natCast, List.getElem?_map, hr]
  rfl
/-- One row has changed. -/
theorem Shf.over (h : Shf T D w k0 f G) {o i : Nat} (ho : o < 5) {r : Slc} {vs : List Value} (hr : (G o).rows[i]? = some r) (hc : Ch [blkOf r] w w') (ho' : Own w' (T.e o) (T.sz o) r vs) : Shf T D w' k0 f (upG G o ((G o).set i vs)) := by
  have nin : ∀ k, f k ≠ 7 + 5 * i + o → ¬ inL [blkOf r] k := fun k hk hin => hk (h.fr o ho i r k hr (show some k = blkOf r from hin).symm).2
  have hh : ∀ q, (upG G o ((G o).set i vs) q).hs = (G q).hs := fun q => by
    unfold upG
    split
    · rename_i hq; subst hq; rfl
    · rfl
  have hrw : ∀ q, (upG G o ((G o).set i vs) q).rows = (G q).rows := fun q => by
    unfold upG
    split
    · rename_i hq; subst hq; rfl
    · rfl
  refine ⟨?_, h.d0, h.f0, fun q hq => ?_, fun q hq k hk => ?_, fun q hq => ?_, fun q hq j r2 vs2 h1 h2 => ?_, fun q hq j r2 k h1 h2 => ?_⟩
  · simp only [hh]
    exact h.blk.ch hc (nin k0 (by rw [h.f0]; omega))
  · rw [hh, hrw]
    exact (h.own q hq).ch hc fun k hk => nin k (by rw [(h.fh q hq k hk).2]; omega)
  · rw [hh] at hk; exact h.fh q hq k hk
  · rw [hrw, h.len q hq]
    unfold upG
    split
    · rename_i hq; subst hq; simp [GS.set]
    · rfl
  · rw [hrw] at h1
    by_cases hqo : q = o
    · subst hqo
      rw [upG_same] at h2
      by_cases hji : j = i
      · subst hji
        rw [hr] at h1
        cases h1
        have : (((G q).vss.set j vs))[j]? = some vs2 := h2
        rw [List.getElem?_set_self (by rw [← h.len q hq]; exact (List.getElem?_eq_some_iff.1 hr).1)] at this
        cases this
        exact ho'
      · have : (((G q).vss.set i vs))[j]? = some vs2 := h2
        rw [List.getElem?_set_ne (Ne.symm hji)] at this
        exact (h.row q hq j r2 vs2 h1 this).ch hc fun k hk => nin k (by rw [(h.fr q hq j r2 k h1 hk).2]; omega)
    · rw [upG_ne hqo] at h2
      exact (h.row q hq j r2 vs2 h1 h2).ch hc fun k hk => nin k (by rw [(h.fr q hq j r2 k h1 hk).2]; omega)
  · rw [hrw] at h1; exact h.fr q hq j r2 k h1 h2
theorem Shf.mono {E : Nat → Prop} (h : Shf T D w k0 f G) (he : ∀ k, D k → E k) : Shf T E w k0 f G :=
  ⟨h.blk, he _ h.d0, h.f0, h.own, fun o ho k hk => ⟨he k (h.fh o ho k hk).1, (h.fh o ho k hk).2⟩, h.len, h.row, fun o ho i r k h1 h2 => ⟨he k (h.fr o ho i r k h1 h2).1, (h.fr o ho i r k h1 h2).2⟩⟩
/-- One more row is laid on the shelf. -/
theorem Shf.push {P : Program} {t ty : TypeId} {z : Value} {o : Nat} (TT : ElT P t (T.te o) z 1 24) {b : Nat} {r : Slc} {vs : List Value} {K : World → Prop} (h : Shf T D w k0 f G) (ho : o < 5) (hb : Blk w b #[slV r] (T.te o)) (hbd : ¬ D b)
    (hr : Own w (T.e o) (T.sz o) r vs) (hrd : ∀ k, blkOf r = some k → ¬ D k) (hDw : ∀ k, D k → k < w.heap.size) (hl : (G o).rows.length ≤ 1000000000)
    (hK : ∀ f' hs' w', Shf T (fun k => D k ∨ blkOf r = some k ∨ (w.heap.size ≤ k ∧ k < w'.heap.size)) w' k0 f' (upG G o ((G o).push hs' r vs)) → Chg D w w' → w.heap.size ≤ w'.heap.size → K w') :
    apP P #[t, t] ty [slV (G o).hs, .slice (some ⟨b, 0, none⟩) 1 1] w fun s w2 => nnP (some ⟨k0, 0, none⟩) fun a7 => stP (a7.add o) (slV s) w2 K := by
  have hhl := h.hl ho
  refine apS TT (s := (G o).hs) (x := ⟨some ⟨b, 0, none⟩, 1, 1⟩) (news := [slV r]) (h.own o ho) rfl rfl (fun j u hu => ?_) (fun u hu => ?_) (by simp only []; omega) (by simp only []; omega) fun s w2 ho2 hl2 hc2 hk2 hor => ?_
  · rw [add_mk, Nat.zero_add, hb.cell]
    cases j with
    | zero => simpa using hu
    | succ j => simp at hu
  · simp at hu; subst hu; rfl
  have z2 := hc2.size
  have nin : ∀ k, f k ≠ o + 1 ∨ ¬ D k → ¬ inL [blkOf (G o).hs] k := fun k hk hin => by
    have := h.fh o ho k (show some k = blkOf (G o).hs from hin).symm
    rcases hk with hk | hk
    · exact hk this.2
    · exact hk this.1
  rw [nnP_some]
  have hbk := h.blk.ch hc2 (nin k0 (.inl (by rw [h.f0]; omega)))
  refine stB hbk (by simp; omega) fun w3 hc3 hb3 hz3 => ?_
  have n3 : ∀ k, k ≠ k0 → ¬ inL [some k0] k := fun k hk hin => hk (by have : some k = some k0 := hin; cases this; rfl)
  have hsb : ∀ k, blkOf s = some k → blkOf (G o).hs = some k ∨ w.heap.size ≤ k := fun k hk => by
    rcases hor with ⟨h1, _⟩ | h1
    · left; rw [← hk]; simp [blkOf, h1]
    · exact .inr (h1 k hk)
  have hrw : blkOf r = none ∨ ∃ k, blkOf r = some k ∧ k < w.heap.size := by
    cases hbr : blkOf r with
    | none => exact .inl rfl
    | some k => exact .inr ⟨k, rfl, hr.ltS k hbr⟩
  let f' : Nat → Nat := fun k => if w.heap.size ≤ k then o + 1 else if blkOf r = some k then 7 + 5 * (G o).rows.length + o else f k
  have fD : ∀ k, D k → f' k = f k := fun k hk => by
    have h1 := hDw k hk
    have h2 : ¬ blkOf r = some k := fun hh => hrd k hh hk
    show (if _ then _ else _) = _
    rw [if_neg (by omega), if_neg h2]
  have fN : ∀ k, w.heap.size ≤ k → f' k = o + 1 := fun k hk => if_pos hk
  have k0n : ∀ k, blkOf s = some k → k ≠ k0 := fun k hk he => by
    subst he
    rcases hsb k hk with h1 | h1
    · have := (h.fh o ho k h1).2
      rw [h.f0] at this; omega
    · have := hDw k h.d0; omega
  refine hK f' s w3 ⟨?_, .inl h.d0, by rw [fD k0 h.d0]; exact h.f0, fun q hq => ?_, fun q hq k hk => ?_, fun q hq => ?_, fun q hq j r2 vs2 h1 h2 => ?_, fun q hq j r2 k h1 h2 => ?_⟩ ?_ (by omega)
  · rcases (by omega : o = 0 ∨ o = 1 ∨ o = 2 ∨ o = 3 ∨ o = 4) with rfl | rfl | rfl | rfl | rfl <;> exact hb3
  · by_cases hqo : q = o
    · subst hqo
      rw [upG_same]
      have : Own w2 (T.te q) 1 s (((G q).rows ++ [r]).map slV) := by rw [List.map_append]; exact ho2
      exact this.ch hc3 fun k hk => n3 k (k0n k hk)
    · rw [upG_ne hqo]
      refine ((h.own q hq).ch hc2 fun k hk => nin k (.inl ?_)).ch hc3 fun k hk => n3 k fun he => ?_
      · rw [(h.fh q hq k hk).2]; omega
      · have := (h.fh q hq k hk).2
        rw [he, h.f0] at this; omega
  · by_cases hqo : q = o
    · subst hqo
      rw [upG_same] at hk
      rcases hsb k hk with h1 | h1
      · have := h.fh q hq k h1
        exact ⟨.inl this.1, by rw [fD k this.1]; exact this.2⟩
      · exact ⟨.inr (.inr ⟨h1, by have := ho2.ltS k hk; omega⟩), fN k h1⟩
    · rw [upG_ne hqo] at hk
      have := h.fh q hq k hk
      exact ⟨.inl this.1, by rw [fD k this.1]; exact this.2⟩
  · by_cases hqo : q = o
    · subst hqo
      rw [upG_same]
      show ((G q).rows ++ [r]).length = ((G q).vss ++ [vs]).length
      simp [h.len q hq]
    · rw [upG_ne hqo]; exact h.len q hq
  · have old : ∀ q, q < 5 → ∀ (j : Nat) (r2 : Slc) (vs2 : List Value), (G q).rows[j]? = some r2 → (G q).vss[j]? = some vs2 → Own w3 (T.e q) (T.sz q) r2 vs2 := fun q hq j r2 vs2 h1 h2 => by
      refine ((h.row q hq j r2 vs2 h1 h2).ch hc2 fun k hk => nin k (.inl ?_)).ch hc3 fun k hk => n3 k fun he => ?_
      · rw [(h.fr q hq j r2 k h1 hk).2]; omega
      · have := (h.fr q hq j r2 k h1 hk).2
        rw [he, h.f0] at this; omega
    by_cases hqo : q = o
    · subst hqo
      rw [upG_same] at h1 h2
      have h1' : ((G q).rows ++ [r])[j]? = some r2 := h1
      have h2' : ((G q).vss ++ [vs])[j]? = some vs2 := h2
      rcases Nat.lt_or_ge j (G q).rows.length with hj | hj
      · rw [List.getElem?_append_left hj] at h1'
        rw [List.getElem?_append_left (by rw [← h.len q hq]; exact hj)] at h2'
        exact old q hq j r2 vs2 h1' h2'
      · have hje : j = (G q).rows.length := by
          have := (List.getElem?_eq_some_iff.1 h1').1
          simp at this; omega
        subst hje
        rw [List.getElem?_append_right (Nat.le_refl _), Nat.sub_self] at h1'
        rw [List.getElem?_append_right (by rw [h.len q hq]; exact Nat.le_refl _), h.len q hq, Nat.sub_self] at h2'
        simp at h1' h2'
        subst h1' h2'
        refine (hr.ch hc2 fun k hk => nin k (.inr (hrd k hk))).ch hc3 fun k hk => n3 k fun he => ?_
        subst he
        exact hrd k hk h.d0
    · rw [upG_ne hqo] at h1 h2
      exact old q hq j r2 vs2 h1 h2
  · have old : (G q).rows[j]? = some r2 → (D k ∨ blkOf r = some k ∨ (w.heap.size ≤ k ∧ k < w3.heap.size)) ∧ f' k = 7 + 5 * j + q := fun h1 => by
      have := h.fr q hq j r2 k h1 h2
      exact ⟨.inl this.1, by rw [fD k this.1]; exact this.2⟩
    by_cases hqo : q = o
    · subst hqo
      rw [upG_same] at h1
      have h1' : ((G q).rows ++ [r])[j]? = some r2 := h1
      rcases Nat.lt_or_ge j (G q).rows.length with hj | hj
      · rw [List.getElem?_append_left hj] at h1'
        exact old h1'
      · have hje : j = (G q).rows.length := by
          have := (List.getElem?_eq_some_iff.1 h1').1
          simp at this; omega
        subst hje
        rw [List.getElem?_append_right (Nat.le_refl _), Nat.sub_self] at h1'
        simp at h1'
        subst h1'
        refine ⟨.inr (.inl h2), ?_⟩
        have := hr.ltS k h2
        show (if _ then _ else _) = _
        rw [if_neg (by omega), if_pos h2]
    · rw [upG_ne hqo] at h1
      exact old h1
  · have a1 : Chg D w w2 := Chg.mono hc2 fun k _ hk => (h.fh o ho k (show some k = blkOf (G o).hs from hk).symm).1
    exact a1.step hc3 fun k _ hk => by
      have : some k = some k0 := hk
      cases this
      exact h.d0
end
end Go.Pl
