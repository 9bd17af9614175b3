/- Fill: a shelf's rows are written full, group by group. -/
import Derived.Test.YtlnhecbgjjglfaaShf
set_option linter.unusedVariables false
set_option linter.unusedSimpArgs false
namespace Go.Pl
open Go Go.Sh Go.RowKit
/-- The first x elements of row i of group o are marks. -/
def Mks (n : Nat) (kt : TypeId) (o i : Nat) (w : World) (x : Nat) (vs : List Value) : Prop := ∀ j, j < x →
  (o = 0 → vs[j * 4]? = some (.int .i64 (-50 - (i : Int)))) ∧
  (o = 1 → vs[j * 2]? = some (.int .i64 (-50 - (i : Int))) ∧ vs[j * 2 + 1]? = some (.int .i64 0)) ∧
  (o = 2 → vs[j]? = some (.int .i64 (-50 - (i : Int)))) ∧
  (o = 3 → ∃ kb, n ≤ kb ∧ vs[j]? = some (.slice (some ⟨kb, 0, none⟩) 1 1) ∧ Blk w kb #[.int .i64 (-50 - (i : Int)), .int .i64 0] kt) ∧
  (o = 4 → vs[j]? = some (.int .u8 (IntKind.u8.wrap ((i : Int) + 1))))
theorem Mks.chg {n : Nat} {kt : TypeId} {D : Nat → Prop} {o i x : Nat} {w w' : World} {vs : List Value} (h : Mks n kt o i w x vs) (hc : Chg D w w') (hD : ∀ k, D k → k < n) : Mks n kt o i w' x vs := fun j hj => by
  obtain ⟨h0, h1, h2, h3, h4⟩ := h j hj
  refine ⟨h0, h1, h2, fun ho => ?_, h4⟩
  obtain ⟨kb, g1, g2, g3⟩ := h3 ho
  exact ⟨kb, g1, g2, g3.chg hc fun hk => by have := hD kb hk; omega⟩
structure FInv (T : ShT) (D : Nat → Prop) (n : Nat) (kt : TypeId) (k0 : Nat) (f : Nat → Nat) (G0 : Nat → GS) (Dn : Nat → Nat → Prop) (w : World) (G : Nat → GS) : Prop where
  sh : Shf T D w k0 f G
  same : ∀ q, (G q).rows = (G0 q).rows
  done : ∀ q, q < 5 → ∀ (i : Nat) (r : Slc) (vs : List Value), Dn q i → (G q).rows[i]? = some r → (G q).vss[i]? = some vs → Mks n kt q i w r.l vs
theorem upG_rows {G : Nat → GS} {o i : Nat} {vs : List Value} (q : Nat) : (upG G o ((G o).set i vs) q).rows = (G q).rows := by
  unfold upG
  split
  · rename_i hq; subst hq; rfl
  · rfl
section
variable {T : ShT} {D : Nat → Prop} {n : Nat} {kt : TypeId} {k0 : Nat} {f : Nat → Nat} {G0 : Nat → GS}
/-- One group is written full. -/
theorem fillG {o : Nat} (ho : o < 5) {W : Int → Slc → Int → World → (World → Prop) → Prop} {REST : World → Prop} {Dn : Nat → Nat → Prop} {w : World} {G : Nat → GS} (hinv : FInv T D n kt k0 f G0 Dn w G) (hDn : ∀ k, D k → k < n) (hz : n ≤ w.heap.size) (hno : ∀ j, ¬ Dn o j)
    (few : (G0 o).rows.length ≤ 1000000000 ∧ ∀ r ∈ (G0 o).rows, r.l ≤ 1000000000)
    (hW : ∀ (i x : Nat) (r : Slc) (vs : List Value) (w1 : World) (K : World → Prop), Own w1 (T.e o) (T.sz o) r vs → (∀ k, blkOf r = some k → D k) → n ≤ w1.heap.size → i ≤ 1000000000 → x < r.l → Mks n kt o i w1 x vs →
      (∀ w2 vs', Own w2 (T.e o) (T.sz o) r vs' → Ch [blkOf r] w1 w2 → Mks n kt o i w2 (x + 1) vs' → K w2) → W (i : Int) r (x : Int) w1 K)
    (hrest : ∀ w' G', FInv T D n kt k0 f G0 (fun q j => Dn q j ∨ q = o) w' G' → Chg D w w' → w.heap.size ≤ w'.heap.size → REST w') :
    loopP (σ := Int × Unit) (fun st2 next1 w3 => (fun (x4 : Int) => nnP (some ⟨k0, 0, none⟩) fun a5 => ldS (a5.add o) w3 fun s6 => iteB (decide ((x4 : Int) < (s6.l : Int)))
      (loopP (σ := Int × Unit) (fun st8 next7 w9 => (fun (x10 : Int) => nnP (some ⟨k0, 0, none⟩) fun a11 => ldS (a11.add o) w9 fun s12 => idxP s12.a s12.l x4 1 fun a13 => ldS a13 w9 fun s14 => iteB (decide ((x10 : Int) < (s14.l : Int)))
        (nnP (some ⟨k0, 0, none⟩) fun a15 => ldS (a15.add o) w9 fun s16 => idxP s16.a s16.l x4 1 fun a17 => ldS a17 w9 fun s18 => W x4 s18 x10 w9 fun w21 => next7 ((IntKind.i64.wrap (x10 + 1)), ()) w21)
        (next1 ((IntKind.i64.wrap (x4 + 1)), ()) w9)) st8.1) (0, ()) w3)
      (REST w3)) st2.1) (0, ()) w := by
  refine loopP_inv (fun st w1 => ∃ (i : Nat) (G1 : Nat → GS), st.1 = (i : Int) ∧ i ≤ (G0 o).rows.length ∧ FInv T D n kt k0 f G0 (fun q j => Dn q j ∨ (q = o ∧ j < i)) w1 G1 ∧ Chg D w w1 ∧ w.heap.size ≤ w1.heap.size) (fun st _ => (G0 o).rows.length - st.1.toNat)
    ⟨0, G, rfl, Nat.zero_le _, ⟨hinv.sh, hinv.same, fun q hq i r vs hd => hinv.done q hq i r vs (hd.elim id fun h => by omega)⟩, Chg.refl _ _, Nat.le_refl _⟩ ?_
  rintro ⟨i0, u⟩ w1 next1 ⟨i, G1, rfl, hi, h1, hc1, hz1⟩ hnext1
  dsimp only
  rw [nnP_some]
  have hl1 := h1.sh.hl ho
  rw [h1.same] at hl1
  refine h1.sh.hd ho (iteB_dec (fun h => ?_) (fun h => ?_))
  · have hlt : i < (G0 o).rows.length := by omega
    have hr : (G0 o).rows[i]? = some (G0 o).rows[i] := by simp
    have hrl := few.2 _ (List.getElem_mem hlt)
    generalize (G0 o).rows[i] = r at hr hrl
    refine loopP_inv (fun st w2 => ∃ (x : Nat) (G2 : Nat → GS) (vs : List Value), st.1 = (x : Int) ∧ x ≤ r.l ∧ FInv T D n kt k0 f G0 (fun q j => Dn q j ∨ (q = o ∧ j < i)) w2 G2 ∧ (G2 o).vss[i]? = some vs ∧ Mks n kt o i w2 x vs ∧ Chg D w w2 ∧ w.heap.size ≤ w2.heap.size) (fun st _ => r.l - st.1.toNat) ?_ ?_
    · have hvl : i < (G1 o).vss.length := by rw [← h1.sh.len o ho, h1.same]; exact hlt
      exact ⟨0, G1, _, rfl, Nat.zero_le _, h1, List.getElem?_eq_getElem hvl, fun j hj => by omega, hc1, hz1⟩
    rintro ⟨x0, u⟩ w2 next7 ⟨x, G2, vs, rfl, hx, h2, hvs, hm, hc2, hz2⟩ hnext7
    dsimp only
    have hr2 : (G2 o).rows[i]? = some r := by rw [h2.same]; exact hr
    rw [nnP_some]
    refine h2.sh.hd ho (h2.sh.at_ ho hr2 rfl (iteB_dec (fun h => ?_) (fun h => ?_)))
    · rw [nnP_some]
      refine h2.sh.hd ho (h2.sh.at_ ho hr2 rfl ?_)
      refine hW i x r vs w2 _ (h2.sh.row o ho i r vs hr2 hvs) (fun k hk => (h2.sh.fr o ho i r k hr2 hk).1) (by omega) (by omega) (by omega) hm fun w3 vs' ho3 hc3 hm3 => ?_
      rw [wrap_i64 (by omega)]
      have hcD : Chg D w2 w3 := Chg.mono hc3 fun k _ hk => (h2.sh.fr o ho i r k hr2 (show some k = blkOf r from hk).symm).1
      refine hnext7 _ _ ⟨x + 1, _, vs', by simp, by omega, ⟨h2.sh.over ho hr2 hc3 ho3, fun q => by rw [upG_rows]; exact h2.same q, fun q hq j r' vs2 hd g1 g2 => ?_⟩, ?_, hm3, hc2.step hcD fun _ _ h => h, by have := hc3.size; omega⟩ (by simp; omega)
      · rw [upG_rows] at g1
        by_cases hqo : q = o
        · subst hqo
          rw [upG_same] at g2
          have g2' : ((G2 q).vss.set i vs')[j]? = some vs2 := g2
          by_cases hji : j = i
          · subst hji
            rw [hr2] at g1
            cases g1
            rcases hd with hd | hd
            · exact absurd hd (hno _)
            · omega
          · rw [List.getElem?_set_ne (Ne.symm hji)] at g2'
            exact (h2.done q hq j r' vs2 hd g1 g2').chg hcD hDn
        · rw [upG_ne hqo] at g2
          exact (h2.done q hq j r' vs2 hd g1 g2).chg hcD hDn
      · rw [upG_same]
        show ((G2 o).vss.set i vs')[i]? = some vs'
        rw [List.getElem?_set_self (List.getElem?_eq_some_iff.1 hvs).1]
    · have hxe : x = r.l := by omega
      subst hxe
      rw [wrap_i64 (by omega)]
      refine hnext1 _ _ ⟨i + 1, G2, by simp, hlt, ⟨h2.sh, h2.same, fun q hq j r' vs2 hd g1 g2 => ?_⟩, hc2, hz2⟩ (by simp; omega)
      rcases hd with hd | ⟨rfl, hj⟩
      · exact h2.done q hq j r' vs2 (.inl hd) g1 g2
      · rcases Nat.lt_or_ge j i with g | g
        · exact h2.done q hq j r' vs2 (.inr ⟨rfl, g⟩) g1 g2
        · have : j = i := by omega
          subst this
          rw [hr2] at g1
          cases g1
          rw [hvs] at g2
          cases g2
          exact hm
  · have hie : i = (G0 o).rows.length := by omega
    subst hie
    refine hrest w1 G1 ⟨h1.sh, h1.same, fun q hq j r' vs2 hd g1 g2 => ?_⟩ hc1 hz1
    rcases hd with hd | rfl
    · exact h1.done q hq j r' vs2 (.inl hd) g1 g2
    · refine h1.done q hq j r' vs2 (.inr ⟨rfl, ?_⟩) g1 g2
      have := (List.getElem?_eq_some_iff.1 g1).1
      rwa [h1.same] at this
end
end Go.Pl
