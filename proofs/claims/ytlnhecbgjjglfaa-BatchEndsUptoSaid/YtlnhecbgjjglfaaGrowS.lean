/- GrowS: a shelf's rows are grown; none of it is seen in any row. -/
import Derived.Test.YtlnhecbgjjglfaaFill
set_option linter.unusedVariables false
set_option linter.unusedSimpArgs false
namespace Go.Pl
open Go Go.Sh Go.RowKit
/-- A front of a row of one's own. -/
theorem Own.pre {w : World} {e : TypeId} {sz : Nat} {s r : Slc} {ws : List Value} (h : Own w e sz s ws) (ha : s.a = r.a) (hc : s.c = r.c) (hl : r.l ≤ s.l) (hn : r.a ≠ none) : Own w e sz r (ws.take (r.l * sz)) := by
  have hlen := h.len
  have hm : r.l * sz ≤ s.l * sz := Nat.mul_le_mul_right _ hl
  refine ⟨by rw [List.length_take]; omega, .inr ?_⟩
  rcases h.2 with ⟨hs, h0⟩ | ⟨g, cap, cur, hs, hb, hg, hnc, hcm, hcs, htake⟩
  · injection hs with e1 e2 e3
    rw [ha] at e1
    exact absurd e1 hn
  · injection hs with e1 e2 e3
    refine ⟨g, cap, cur, by rw [← ha, e1, ← hc, e3], hb, hg, by omega, hcm, hcs, ?_⟩
    rw [← htake, List.take_take, Nat.min_eq_left hm]
/-- A cell of an element is written. -/
theorem Own.stc {w : World} {e : TypeId} {sz : Nat} {s : Slc} {vs : List Value} {x c : Nat} {x' : Int} {v : Value} {K : World → Prop} (h : Own w e sz s vs) (hx : x < s.l) (hc : c < sz) (hx' : x' = (x : Int))
    (hK : ∀ w', Own w' e sz s (vs.set (x * sz + c) v) → Ch [blkOf s] w w' → w'.heap.size = w.heap.size → K w') : idxP s.a s.l x' sz fun a => stP (a.add c) v w K := by
  subst hx'
  rcases h.2 with ⟨hs, hn⟩ | ⟨g, cap, cur, hs, hb, hg, hnc, hcm, hcs, htake⟩
  · omega
  · have hs' := hs
    injection hs with e1 e2 e3
    refine idxP_intro (by omega) (by omega) e1 ?_
    have hxs : x * sz + c < cur.size := by
      have : (x + 1) * sz ≤ cap * sz := Nat.mul_le_mul_right _ (by omega)
      rw [Nat.add_mul, Nat.one_mul] at this
      omega
    rw [Int.toNat_natCast, Deep.add_add]
    refine stB hg hxs fun w' hc' hb' hz => hK w' ⟨by rw [List.length_set]; exact h.1, .inr ⟨g, cap, _, hs', hb, hb', hnc, hcm, by simpa using hcs, ?_⟩⟩ (by simpa [blkOf, e1] using hc') hz
    rw [Array.toList_setIfInBounds, List.take_set, htake]
section
variable {T : ShT} {D : Nat → Prop} {w w' : World} {k0 : Nat} {f : Nat → Nat} {G : Nat → GS}
theorem Shf.frame {S : Nat → Prop} (h : Shf T D w k0 f G) (hc : Chg S w w') (hS : ∀ k, D k → ¬ S k) : Shf T D w' k0 f G :=
  ⟨h.blk.chg hc (hS _ h.d0), h.d0, h.f0, fun o ho => (h.own o ho).chg hc fun k hk => hS k (h.fh o ho k hk).1, h.fh, h.len, fun o ho i r vs h1 h2 => (h.row o ho i r vs h1 h2).chg hc fun k hk => hS k (h.fr o ho i r k h1 hk).1, h.fr⟩
theorem Shf.keep (h : Shf T D w k0 f G) {o i : Nat} (ho : o < 5) {r : Slc} {vs : List Value} (hr : (G o).rows[i]? = some r) (hv : (G o).vss[i]? = some vs) (hc : Ch [blkOf r] w w') (ho' : Own w' (T.e o) (T.sz o) r vs) : Shf T D w' k0 f G := by
  have h1 := h.over ho hr hc ho'
  have e : upG G o ((G o).set i vs) = G := by
    funext q
    unfold upG
    split
    · rename_i hq
      subst hq
      show (⟨(G q).hs, (G q).rows, (G q).vss.set i vs⟩ : GS) = G q
      have : (G q).vss.set i vs = (G q).vss := by
        obtain ⟨hi, he⟩ := List.getElem?_eq_some_iff.1 hv
        rw [← he, List.set_getElem_self]
      rw [this]
    · rfl
  rwa [e] at h1
end
/-- A row that has grown out of row r. -/
def Gown (n : Nat) (e : TypeId) (sz : Nat) (r : Slc) (vs : List Value) (q : Nat) (w : World) (g : Slc) : Prop := (∃ us, Own w e sz g (vs ++ us)) ∧ g.l = r.l + q ∧ ((g.a = r.a ∧ g.c = r.c ∧ r.a ≠ none) ∨ Ge n (blkOf g))
/-- How one element is appended. -/
def Apx (e : TypeId) (sz : Nat) (X : Int → Slc → World → (Slc → World → Prop) → Prop) : Prop := ∀ (i : Nat) (s : Slc) (vs : List Value) (w : World) (K : Slc → World → Prop), Own w e sz s vs → s.l ≤ 2000000000 → i ≤ 1000000000 →
  (∀ s' w' us, Own w' e sz s' (vs ++ us) → s'.l = s.l + 1 → Ch [blkOf s] w w' → Own w' e sz s vs → ((s'.a = s.a ∧ s'.c = s.c ∧ s.a ≠ none) ∨ Ge w.heap.size (blkOf s')) → (∀ u ∈ us, u.oneCell' = true) → K s' w') → X (i : Int) s w K
section
variable {T : ShT} {D : Nat → Prop} {n : Nat} {k0 : Nat} {f : Nat → Nat} {G : Nat → GS}
theorem grow1 {o i q : Nat} (ho : o < 5) {X : Int → Slc → World → (Slc → World → Prop) → Prop} (hX : Apx (T.e o) (T.sz o) X) {w : World} {r g : Slc} {vs : List Value} {K : Slc → World → Prop} (h : Shf T D w k0 f G) (hD : ∀ k, D k → k < n) (hz : n ≤ w.heap.size)
    (hr : (G o).rows[i]? = some r) (hv : (G o).vss[i]? = some vs) (hg : Gown n (T.e o) (T.sz o) r vs q w g) (hrl : r.l ≤ 1000000000) (hq : q ≤ 1000000) (hi : i ≤ 1000000000)
    (hK : ∀ g' w', Shf T D w' k0 f G → Gown n (T.e o) (T.sz o) r vs (q + 1) w' g' → Ch [blkOf g] w w' → (∀ k, blkOf g' = some k → blkOf g = some k ∨ w.heap.size ≤ k) → K g' w') : X (i : Int) g w K := by
  obtain ⟨⟨us, hg1⟩, hg2, hg3⟩ := hg
  refine hX i g (vs ++ us) w K hg1 (by omega) hi fun s' w' us' ho1 hl1 hc1 hk1 hor _ => ?_
  have hvl := (h.row o ho i r vs hr hv).len
  have hfm : ∀ k, blkOf s' = some k → blkOf g = some k ∨ w.heap.size ≤ k := fun k hk => by
    rcases hor with ⟨b1, _⟩ | hge
    · left; rw [← hk]; simp [blkOf, b1]
    · exact .inr (hge k hk)
  have hown' : (∃ us, Own w' (T.e o) (T.sz o) s' (vs ++ us)) := ⟨us ++ us', by rw [← List.append_assoc]; exact ho1⟩
  rcases hg3 with ⟨a1, a2, a3⟩ | hge
  · have hb : blkOf g = blkOf r := by simp [blkOf, a1]
    rw [hb] at hc1
    have hpre := hk1.pre a1 a2 (by omega) a3
    rw [List.take_left' hvl] at hpre
    refine hK s' w' (h.keep ho hr hv hc1 hpre) ⟨hown', by omega, ?_⟩ (by rw [hb]; exact hc1) hfm
    rcases hor with ⟨b1, b2, b3⟩ | hge
    · exact .inl ⟨by rw [b1, a1], by rw [b2, a2], a3⟩
    · exact .inr fun k hk => by have := hge k hk; omega
  · refine hK s' w' (h.frame (S := inL [blkOf g]) hc1 fun k hk hin => ?_) ⟨hown', by omega, ?_⟩ hc1 hfm
    · have h1 := hge k (show some k = blkOf g from hin).symm
      have h2 := hD k hk
      omega
    · rcases hor with ⟨b1, b2, b3⟩ | hge'
      · right
        intro k hk
        exact hge k (by rw [← hk]; simp [blkOf, b1])
      · exact .inr fun k hk => by have := hge' k hk; omega
theorem gown0 {o i : Nat} (ho : o < 5) {w : World} {r : Slc} {vs : List Value} (h : Shf T D w k0 f G) (hr : (G o).rows[i]? = some r) (hv : (G o).vss[i]? = some vs) : Gown n (T.e o) (T.sz o) r vs 0 w r := by
  refine ⟨⟨[], by rw [List.append_nil]; exact h.row o ho i r vs hr hv⟩, rfl, ?_⟩
  cases hra : r.a with
  | none => exact .inr fun k hk => by simp [blkOf, hra] at hk
  | some a => exact .inl ⟨rfl, rfl, by simp⟩
theorem new_chg {L : List (Option Nat)} {w w' : World} {g r : Slc} {vs : List Value} {e : TypeId} {sz q : Nat} (hg : Gown n e sz r vs q w g) (hrD : ∀ k, blkOf r = some k → D k) (hc : Ch [blkOf g] w w') : Chg (fun k => D k ∨ n ≤ k) w w' := Chg.mono hc fun k _ hk => by
  have hk : blkOf g = some k := (show some k = blkOf g from hk).symm
  rcases hg.2.2 with ⟨a1, _⟩ | hge
  · exact .inl (hrD k (by rw [← hk]; simp [blkOf, a1]))
  · exact .inr (hge k hk)
/-- A group is grown, one element at a time. -/
theorem growB {o N : Nat} (ho : o < 5) {X : Int → Slc → World → (Slc → World → Prop) → Prop} (hX : Apx (T.e o) (T.sz o) X) {REST : World → Prop} {w : World} (h : Shf T D w k0 f G) (hD : ∀ k, D k → k < n) (hz : n ≤ w.heap.size)
    (few : (G o).rows.length ≤ 1000000000 ∧ ∀ r ∈ (G o).rows, r.l ≤ 1000000000) (hN : N ≤ 1000)
    (hrest : ∀ w', Shf T D w' k0 f G → Chg (fun k => D k ∨ n ≤ k) w w' → w.heap.size ≤ w'.heap.size → REST w') :
    loopP (σ := Int × Unit) (fun st2 next1 w3 => (fun (x4 : Int) => nnP (some ⟨k0, 0, none⟩) fun a5 => ldS (a5.add o) w3 fun s6 => iteB (decide ((x4 : Int) < (s6.l : Int)))
      (nnP (some ⟨k0, 0, none⟩) fun a7 => ldS (a7.add o) w3 fun s8 => idxP s8.a s8.l x4 1 fun a9 => ldS a9 w3 fun s10 => loopP (σ := Slc × Int × Unit) (fun st12 next11 w13 => (fun (x14 : Slc) (x16 : Int) => iteB (decide ((x16 : Int) < (N : Int)))
        (X x4 x14 w13 fun s20 w19 => next11 (s20, (IntKind.i64.wrap (x16 + 1)), ()) w19)
        (next1 ((IntKind.i64.wrap (x4 + 1)), ()) w13)) st12.1 st12.2.1) (s10, 0, ()) w3)
      (REST w3)) st2.1) (0, ()) w := by
  refine loopP_inv (fun st w1 => ∃ i : Nat, st.1 = (i : Int) ∧ i ≤ (G o).rows.length ∧ Shf T D w1 k0 f G ∧ Chg (fun k => D k ∨ n ≤ k) w w1 ∧ w.heap.size ≤ w1.heap.size) (fun st _ => (G o).rows.length - st.1.toNat) ⟨0, rfl, Nat.zero_le _, h, Chg.refl _ _, Nat.le_refl _⟩ ?_
  rintro ⟨i0, u⟩ w1 next1 ⟨i, rfl, hi, h1, hc1, hz1⟩ hnext1
  dsimp only
  rw [nnP_some]
  have hl1 := h1.hl ho
  refine h1.hd ho (iteB_dec (fun hh => ?_) (fun hh => hrest w1 h1 hc1 hz1))
  have hlt : i < (G o).rows.length := by omega
  have hr : (G o).rows[i]? = some (G o).rows[i] := by simp
  have hrl := few.2 _ (List.getElem_mem hlt)
  have hvl : i < (G o).vss.length := by rw [← h1.len o ho]; exact hlt
  have hv : (G o).vss[i]? = some (G o).vss[i] := by simp
  generalize (G o).rows[i] = r at hr hrl
  generalize (G o).vss[i] = vs at hv
  rw [nnP_some]
  refine h1.hd ho (h1.at_ ho hr rfl ?_)
  refine loopP_inv (fun st w2 => ∃ q : Nat, st.2.1 = (q : Int) ∧ q ≤ N ∧ Shf T D w2 k0 f G ∧ Gown n (T.e o) (T.sz o) r vs q w2 st.1 ∧ Chg (fun k => D k ∨ n ≤ k) w w2 ∧ w.heap.size ≤ w2.heap.size) (fun st _ => N - st.2.1.toNat) ⟨0, rfl, Nat.zero_le _, h1, gown0 ho h1 hr hv, hc1, hz1⟩ ?_
  rintro ⟨g, q0, u⟩ w2 next2 ⟨q, rfl, hq, h2, hg, hc2, hz2⟩ hnext2
  dsimp only at hg ⊢
  refine iteB_dec (fun hh => ?_) (fun hh => ?_)
  · refine grow1 ho hX h2 hD (by omega) hr hv hg hrl (by omega) (by omega) fun g' w3 h3 hg' hc3 hfm => ?_
    rw [wrap_i64 (by omega)]
    exact hnext2 _ _ ⟨q + 1, by simp, by omega, h3, hg', hc2.step (new_chg (L := []) hg (fun k hk => (h2.fr o ho i r k hr hk).1) hc3) fun _ _ h => h, by have := hc3.size; omega⟩ (by simp; omega)
  · rw [wrap_i64 (by omega)]
    exact hnext1 _ _ ⟨i + 1, by simp, hlt, h2, hc2, hz2⟩ (by simp; omega)
/-- A group is grown, one by one and by many. -/
theorem growA {P : Program} {t ty : TypeId} {z : Value} {bytes c : Nat} {v : Value} {o N : Nat} (ho : o < 5) (TT : ElT P t (T.e o) z (T.sz o) bytes) (hby : bytes ≤ 1000) (hcz : c < T.sz o) (h1v : v.oneCell' = true) {X : Int → Slc → World → (Slc → World → Prop) → Prop} (hX : Apx (T.e o) (T.sz o) X) {REST : World → Prop} {w : World} (h : Shf T D w k0 f G) (hD : ∀ k, D k → k < n) (hz : n ≤ w.heap.size)
    (few : (G o).rows.length ≤ 1000000000 ∧ ∀ r ∈ (G o).rows, r.l ≤ 1000000000) (hN : 0 < N ∧ N ≤ 1000)
    (hrest : ∀ w', Shf T D w' k0 f G → Chg (fun k => D k ∨ n ≤ k) w w' → w.heap.size ≤ w'.heap.size → REST w') :
    loopP (σ := Int × Unit) (fun st2 next1 w3 => (fun (x4 : Int) => nnP (some ⟨k0, 0, none⟩) fun a5 => ldS (a5.add o) w3 fun s6 => iteB (decide ((x4 : Int) < (s6.l : Int)))
      (nnP (some ⟨k0, 0, none⟩) fun a7 => ldS (a7.add o) w3 fun s8 => idxP s8.a s8.l x4 1 fun a9 => ldS a9 w3 fun s10 => loopP (σ := Slc × Slc × Int × Unit) (fun st12 next11 w13 => (fun (x14 : Slc) (x15 : Slc) (x16 : Int) => iteB (decide ((x16 : Int) < (N : Int)))
        (X x4 x14 w13 fun s20 w19 => X x4 x15 w19 fun s24 w23 => next11 (s20, s24, (IntKind.i64.wrap (x16 + 1)), ()) w23)
        (nnP (some ⟨k0, 0, none⟩) fun a25 => ldS (a25.add o) w13 fun s26 => idxP s26.a s26.l x4 1 fun a27 => ldS a27 w13 fun s28 => apP P #[t, t] ty [.slice s28.a s28.l s28.c, .slice x15.a x15.l x15.c] w13 fun s30 w29 => nnP (some ⟨k0, 0, none⟩) fun a31 => ldS (a31.add o) w29 fun s32 => idxP s32.a s32.l x4 1 fun a33 => ldS a33 w29 fun s34 => idxP s30.a s30.l (s34.l : Int) (T.sz o) fun a35 => stP (a35.add c) v w29 fun w36 => next1 ((IntKind.i64.wrap (x4 + 1)), ()) w36)) st12.1 st12.2.1 st12.2.2.1) (s10, ⟨none, 0, 0⟩, 0, ()) w3)
      (REST w3)) st2.1) (0, ()) w := by
  refine loopP_inv (fun st w1 => ∃ i : Nat, st.1 = (i : Int) ∧ i ≤ (G o).rows.length ∧ Shf T D w1 k0 f G ∧ Chg (fun k => D k ∨ n ≤ k) w w1 ∧ w.heap.size ≤ w1.heap.size) (fun st _ => (G o).rows.length - st.1.toNat) ⟨0, rfl, Nat.zero_le _, h, Chg.refl _ _, Nat.le_refl _⟩ ?_
  rintro ⟨i0, u⟩ w1 next1 ⟨i, rfl, hi, h1, hc1, hz1⟩ hnext1
  dsimp only
  rw [nnP_some]
  have hl1 := h1.hl ho
  refine h1.hd ho (iteB_dec (fun hh => ?_) (fun hh => hrest w1 h1 hc1 hz1))
  have hlt : i < (G o).rows.length := by omega
  have hr : (G o).rows[i]? = some (G o).rows[i] := by simp
  have hrl := few.2 _ (List.getElem_mem hlt)
  have hvl : i < (G o).vss.length := by rw [← h1.len o ho]; exact hlt
  have hv : (G o).vss[i]? = some (G o).vss[i] := by simp
  generalize (G o).rows[i] = r at hr hrl
  generalize (G o).vss[i] = vs at hv
  rw [nnP_some]
  refine h1.hd ho (h1.at_ ho hr rfl ?_)
  refine loopP_inv (fun st w2 => ∃ (q : Nat) (ms : List Value), st.2.2.1 = (q : Int) ∧ q ≤ N ∧ Shf T D w2 k0 f G ∧ Gown n (T.e o) (T.sz o) r vs q w2 st.1 ∧ Own w2 (T.e o) (T.sz o) st.2.1 ms ∧ (∀ u ∈ ms, u.oneCell' = true) ∧ st.2.1.l = q ∧ Ge n (blkOf st.2.1) ∧ Dj (blkOf st.2.1) (blkOf st.1) ∧ Chg (fun k => D k ∨ n ≤ k) w w2 ∧ w.heap.size ≤ w2.heap.size) (fun st _ => N - st.2.2.1.toNat)
    ⟨0, [], rfl, Nat.zero_le _, h1, gown0 ho h1 hr hv, Own.nil _ _ _, (fun u hu => by cases hu), rfl, fun k hk => (by cases hk), fun k hk => (by cases hk), hc1, hz1⟩ ?_
  rintro ⟨g, m, q0, u⟩ w2 next2 ⟨q, ms, rfl, hq, h2, hg, hm, hm1, hml, hmg, hmd, hc2, hz2⟩ hnext2
  dsimp only at hg hm hml hmg hmd ⊢
  have hrD : ∀ k, blkOf r = some k → D k := fun k hk => (h2.fr o ho i r k hr hk).1
  refine iteB_dec (fun hh => ?_) (fun hh => ?_)
  · have hglt : Lt w2.heap.size (blkOf g) := hg.1.choose_spec.ltS
    have hmlt := hm.ltS
    refine grow1 ho hX h2 hD (by omega) hr hv hg hrl (by omega) (by omega) fun g' w3 h3 hg' hc3 hfm => ?_
    have z3 := hc3.size
    have hm3 : Own w3 (T.e o) (T.sz o) m ms := hm.ch hc3 fun k hk hin => hmd k hk (show some k = blkOf g from hin).symm
    refine hX i m ms w3 _ hm3 (by omega) (by omega) fun m' w4 us4 hm4 hml4 hc4 _ hor4 hu4 => ?_
    have z4 := hc4.size
    have hgw : Ch [blkOf m] w3 w4 := hc4
    have hmg' : Dj (blkOf m) (blkOf g') := fun k h1 h2 => by
      rcases hfm k h2 with h3 | h3
      · exact hmd k h1 h3
      · have := hmlt k h1; omega
    have hg4 : Gown n (T.e o) (T.sz o) r vs (q + 1) w4 g' ∧ Dj (blkOf m') (blkOf g') := by
      obtain ⟨⟨us, g1⟩, g2, g3⟩ := hg'
      refine ⟨⟨⟨us, g1.ch hc4 fun k hk hin => hmg' k (show some k = blkOf m from hin).symm hk⟩, g2, g3⟩, fun k k1 k2 => ?_⟩
      rcases hor4 with ⟨b1, _, _⟩ | hge
      · exact hmg' k (by rw [← k1]; simp [blkOf, b1]) k2
      · have a1 := hge k k1
        have a2 := g1.ltS k k2
        omega
    have h4 : Shf T D w4 k0 f G := h3.frame (S := inL [blkOf m]) hc4 fun k hk hin => by
      have a1 := hmg k (show some k = blkOf m from hin).symm
      have a2 := hD k hk
      omega
    rw [wrap_i64 (by omega)]
    refine hnext2 _ _ ⟨q + 1, ms ++ us4, by simp, by omega, h4, hg4.1, hm4, (fun u hu => (List.mem_append.1 hu).elim (hm1 u) (hu4 u)), by dsimp only; omega, fun k hk => ?_, hg4.2, (hc2.step (new_chg (L := []) hg hrD hc3) fun _ _ h => h).step (Chg.mono hc4 fun k _ hk => .inr (hmg k (show some k = blkOf m from hk).symm)) fun _ _ h => h, by omega⟩ (by simp; omega)
    rcases hor4 with ⟨b1, _, _⟩ | hge
    · exact hmg k (by rw [← hk]; simp [blkOf, b1])
    · have := hge k hk; omega
  · rw [nnP_some]
    refine h2.hd ho (h2.at_ ho hr rfl ?_)
    have hrow := h2.row o ho i r vs hr hv
    have hma : ∃ gb, m.a = some (⟨gb, 0, none⟩ : Addr) := by
      rcases hm.2 with ⟨hs, hn0⟩ | ⟨g', cap, cur, hs, _⟩
      · omega
      · injection hs with e1 _ _; exact ⟨_, e1⟩
    obtain ⟨gb, hma⟩ := hma
    have hb1 : (r.l + m.l) * bytes ≤ 140737488355328 := Nat.le_trans (Nat.mul_le_mul (show r.l + m.l ≤ 1000001000 by omega) hby) (by decide)
    refine apS TT (x := m) hrow hma hm.len (fun j u hu => World.ownsRow.cells hm (g := gb) (by rw [hma]; rfl) j u hu) hm1 hb1 (by omega) fun s3 w3 ho3 hl3 hc3 hk3 hor3 => ?_
    have h3 := h2.keep ho hr hv hc3 hk3
    have z3 := hc3.size
    rw [nnP_some]
    refine h3.hd ho (h3.at_ ho hr rfl ?_)
    refine ho3.stc (x := r.l) (by omega) hcz rfl fun w4 ho4 hc4 hz4 => ?_
    have hvl' := hrow.len
    rw [wrap_i64 (by omega)]
    have hcD3 : Chg (fun k => D k ∨ n ≤ k) w2 w3 := Chg.mono hc3 fun k _ hk => .inl (hrD k (show some k = blkOf r from hk).symm)
    rcases hor3 with ⟨b1, b2, b3⟩ | hge
    · have hb : blkOf s3 = blkOf r := by simp [blkOf, b1]
      rw [hb] at hc4
      have hpre := ho4.pre b1 b2 (by omega) b3
      have e : ((vs ++ ms).set (r.l * T.sz o + c) v).take (r.l * T.sz o) = vs := by
        rw [List.take_set, List.take_left' hvl', List.set_eq_of_length_le (by omega)]
      rw [e] at hpre
      refine hnext1 _ _ ⟨i + 1, by simp, hlt, h3.keep ho hr hv hc4 hpre, (hc2.step hcD3 fun _ _ h => h).step (Chg.mono hc4 fun k _ hk => .inl (hrD k (show some k = blkOf r from hk).symm)) fun _ _ h => h, by omega⟩ (by simp; omega)
    · refine hnext1 _ _ ⟨i + 1, by simp, hlt, h3.frame (S := inL [blkOf s3]) hc4 fun k hk hin => ?_, (hc2.step hcD3 fun _ _ h => h).step (Chg.mono hc4 fun k _ hk => .inr ?_) fun _ _ h => h, by omega⟩ (by simp; omega)
      · have a1 := hge k (show some k = blkOf s3 from hin).symm
        have a2 := hD k hk
        omega
      · have a1 := hge k (show some k = blkOf s3 from hk).symm
        omega
theorem growA' {P : Program} {t ty e : TypeId} {z : Value} {bytes c sz : Nat} {ac : Addr → Addr} {v : Value} {o N : Nat} (ho : o < 5) (he : T.e o = e) (hsz : T.sz o = sz) (hac : ∀ a, ac a = a.add c) (TT : ElT P t e z sz bytes) (hby : bytes ≤ 1000) (hcz : c < sz) (h1v : v.oneCell' = true) {X : Int → Slc → World → (Slc → World → Prop) → Prop} (hX : Apx e sz X) {REST : World → Prop} {w : World} (h : Shf T D w k0 f G) (hD : ∀ k, D k → k < n) (hz : n ≤ w.heap.size)
    (few : (G o).rows.length ≤ 1000000000 ∧ ∀ r ∈ (G o).rows, r.l ≤ 1000000000) (hN : 0 < N ∧ N ≤ 1000)
    (hrest : ∀ w', Shf T D w' k0 f G → Chg (fun k => D k ∨ n ≤ k) w w' → w.heap.size ≤ w'.heap.size → REST w') :
    loopP (σ := Int × Unit) (fun st2 next1 w3 => (fun (x4 : Int) => nnP (some ⟨k0, 0, none⟩) fun a5 => ldS (a5.add o) w3 fun s6 => iteB (decide ((x4 : Int) < (s6.l : Int)))
      (nnP (some ⟨k0, 0, none⟩) fun a7 => ldS (a7.add o) w3 fun s8 => idxP s8.a s8.l x4 1 fun a9 => ldS a9 w3 fun s10 => loopP (σ := Slc × Slc × Int × Unit) (fun st12 next11 w13 => (fun (x14 : Slc) (x15 : Slc) (x16 : Int) => iteB (decide ((x16 : Int) < (N : Int)))
        (X x4 x14 w13 fun s20 w19 => X x4 x15 w19 fun s24 w23 => next11 (s20, s24, (IntKind.i64.wrap (x16 + 1)), ()) w23)
        (nnP (some ⟨k0, 0, none⟩) fun a25 => ldS (a25.add o) w13 fun s26 => idxP s26.a s26.l x4 1 fun a27 => ldS a27 w13 fun s28 => apP P #[t, t] ty [.slice s28.a s28.l s28.c, .slice x15.a x15.l x15.c] w13 fun s30 w29 => nnP (some ⟨k0, 0, none⟩) fun a31 => ldS (a31.add o) w29 fun s32 => idxP s32.a s32.l x4 1 fun a33 => ldS a33 w29 fun s34 => idxP s30.a s30.l (s34.l : Int) sz fun a35 => stP (ac a35) v w29 fun w36 => next1 ((IntKind.i64.wrap (x4 + 1)), ()) w36)) st12.1 st12.2.1 st12.2.2.1) (s10, ⟨none, 0, 0⟩, 0, ()) w3)
      (REST w3)) st2.1) (0, ()) w := by
  subst he hsz
  have : ac = fun a => a.add c := funext hac
  subst this
  exact growA ho TT hby hcz h1v hX h hD hz few hN hrest
theorem growB' {e : TypeId} {sz o N : Nat} (ho : o < 5) (he : T.e o = e) (hsz : T.sz o = sz) {X : Int → Slc → World → (Slc → World → Prop) → Prop} (hX : Apx e sz X) {REST : World → Prop} {w : World} (h : Shf T D w k0 f G) (hD : ∀ k, D k → k < n) (hz : n ≤ w.heap.size)
    (few : (G o).rows.length ≤ 1000000000 ∧ ∀ r ∈ (G o).rows, r.l ≤ 1000000000) (hN : N ≤ 1000)
    (hrest : ∀ w', Shf T D w' k0 f G → Chg (fun k => D k ∨ n ≤ k) w w' → w.heap.size ≤ w'.heap.size → REST w') :
    loopP (σ := Int × Unit) (fun st2 next1 w3 => (fun (x4 : Int) => nnP (some ⟨k0, 0, none⟩) fun a5 => ldS (a5.add o) w3 fun s6 => iteB (decide ((x4 : Int) < (s6.l : Int)))
      (nnP (some ⟨k0, 0, none⟩) fun a7 => ldS (a7.add o) w3 fun s8 => idxP s8.a s8.l x4 1 fun a9 => ldS a9 w3 fun s10 => loopP (σ := Slc × Int × Unit) (fun st12 next11 w13 => (fun (x14 : Slc) (x16 : Int) => iteB (decide ((x16 : Int) < (N : Int)))
        (X x4 x14 w13 fun s20 w19 => next11 (s20, (IntKind.i64.wrap (x16 + 1)), ()) w19)
        (next1 ((IntKind.i64.wrap (x4 + 1)), ()) w13)) st12.1 st12.2.1) (s10, 0, ()) w3)
      (REST w3)) st2.1) (0, ()) w := by
  subst he hsz
  exact growB ho hX h hD hz few hN hrest
end
end Go.Pl
