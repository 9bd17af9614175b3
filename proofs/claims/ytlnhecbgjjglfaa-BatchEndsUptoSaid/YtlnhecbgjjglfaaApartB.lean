/- ApartB: shelf.apart. -/
import Derived.Test.YtlnhecbgjjglfaaApart
set_option linter.unusedVariables false
set_option linter.unusedSimpArgs false
namespace Go.Proofs.Ytlnhecbgjjglfaa
open Go Go.Sh Go.Pl Go.RowKit
set_option maxHeartbeats 2000000 in
set_option maxRecDepth 20000 in
theorem apart_ok {D : Nat → Prop} {k0 : Nat} {f : Nat → Nat} {G : Nat → GS} {w : World} {K : Bool → World → Prop} (h : Shf T6 D w k0 f G) (hD : ∀ k, D k → k < w.heap.size) (few : FewG G)
    (hK : ∀ w', Chg (fun k => D k ∨ w.heap.size ≤ k) w w' → K true w') : c_preludelaw06_shelf_apart (some ⟨k0, 0, none⟩) w K := by
  refine sim_preludelaw06_shelf_apart ?_
  unfold sh_preludelaw06_shelf_apart
  refine fill_ok h hD few fun w1 G1 h1 hc1 hz1 => ?_
  have few1 : FewG G1 := fun o ho => by rw [h1.same]; exact few o ho
  refine grow_ok h1.sh hD hz1 few1 fun w2 h2 hc2 hz2 => ?_
  have hc02 : Chg (fun k => D k ∨ w.heap.size ≤ k) w w2 := (Chg.mono hc1 fun k _ hk => .inl hk).step hc2 fun k _ hk => hk.imp id fun h => by omega
  have marks : ∀ o, o < 5 → ∀ (w' : World) (i : Nat) (r : Slc) (vs : List Value), Ch [] w2 w' → (G1 o).rows[i]? = some r → (G1 o).vss[i]? = some vs → Mks w.heap.size 70 o i w' r.l vs := fun o ho w' i r vs hc hr hv => by
    have m1 := h1.done o ho i r vs ho hr hv
    intro j hj
    obtain ⟨a0, a1, a2, a3, a4⟩ := m1 j hj
    refine ⟨a0, a1, a2, fun h3 => ?_, a4⟩
    obtain ⟨kb, b1, b2, b3⟩ := a3 h3
    have b4 := b3.lt
    have b5 : Blk w2 kb #[.int .i64 (-50 - (i : Int)), .int .i64 0] 70 := b3.chg hc2 fun hk => by
      rcases hk with hk | hk
      · have := hD kb hk; omega
      · omega
    exact ⟨kb, b1, b2, b5.ch0 hc⟩
  have step1 := fun (REST : World → Prop) (hrest : ∀ w', Shf T6 D w' k0 f G1 → Ch [] w2 w' → REST w') => checkG (o := 1) (n := w.heap.size) (kt := 70) (V := fun x6 s x12 w Kc => idxP s.a s.l x12 2 fun a21 => ldI .i64 a21 w fun n22 => ldI .i64 (a21.add 1) w fun n23 => (∃ (r24 : Bool), ∃ w25, (do eqGuard .neq 70 (.tmp 47) (.tmp 50) (.agg #[.int .i64 n22, .int .i64 n23]) (.agg #[.int .i64 (IntKind.i64.wrap ((-50) - x6)), .int .i64 0]); binOp .neq 70 (.agg #[.int .i64 n22, .int .i64 n23]) (.agg #[.int .i64 (IntKind.i64.wrap ((-50) - x6)), .int .i64 0])).run Try.prog w = .ok (.bool r24) w25 ∧ (iteB r24 (K false w25) (Kc w25)))) (REST := REST)
    (by omega) h2 (marks 1 (by omega)) (few1 1 (by omega)) (fun i x r vs w3 Kc h3 hr hv hi hx hm hKc => by
      have hrow : Own w3 70 2 r vs := h3.row 1 (by omega) i r vs hr hv
      obtain ⟨m0, m1⟩ := (hm x hx).2.1 rfl
      rw [wrap_i64 (by omega)]
      refine cell_own hrow hx rfl fun ad had => ?_
      refine ldI_of (n := -50 - (i : Int)) (by have := had 0 _ (by decide) m0; rwa [add_zero'] at this) (ldI_of (had 1 _ (by decide) m1) ⟨false, w3, ?_, iteB_neg rfl (hKc w3 (Ch.refl _ _))⟩)
      rw [neq_key]; simp) hrest
  refine step1 _ fun w3 h3 hc3 => ?_
  have step2 := fun (REST : World → Prop) (hrest : ∀ w', Shf T6 D w' k0 f G1 → Ch [] w3 w' → REST w') => checkG (o := 2) (n := w.heap.size) (kt := 70) (V := fun x6 s x12 w Kc => idxP s.a s.l x12 1 fun a44 => ldI .i64 a44 w fun n45 => iteB ((n45 : Int) != (IntKind.i64.wrap ((-50) - x6))) (K false w) (Kc w)) (REST := REST)
    (by omega) h3 (fun w' i r vs hc hr hv => marks 2 (by omega) w' i r vs (hc3.tr hc) hr hv) (few1 2 (by omega)) (fun i x r vs w3 Kc h3 hr hv hi hx hm hKc => by
      have hrow : Own w3 2 1 r vs := h3.row 2 (by omega) i r vs hr hv
      have m0 := (hm x hx).2.2.1 rfl
      rw [wrap_i64 (by omega)]
      refine cell_own hrow hx rfl fun ad had => ?_
      exact ldI_of (n := -50 - (i : Int)) (by have := had 0 _ (by decide) (by rw [Nat.add_zero]; exact (show vs[x * 1]? = _ by rw [Nat.mul_one]; exact m0)); rwa [add_zero'] at this) (iteB_neg (by simp) (hKc w3 (Ch.refl _ _)))) hrest
  refine step2 _ fun w4 h4 hc4 => ?_
  replace hc4 := hc3.tr hc4
  have step4 := fun (REST : World → Prop) (hrest : ∀ w', Shf T6 D w' k0 f G1 → Ch [] w4 w' → REST w') => checkG (o := 4) (n := w.heap.size) (kt := 70) (V := fun x6 s x12 w Kc => idxP s.a s.l x12 1 fun a44 => ldI .u8 a44 w fun n45 => iteB ((n45 : Int) != (IntKind.u8.wrap (IntKind.i64.wrap (x6 + 1)))) (K false w) (Kc w)) (REST := REST)
    (by omega) h4 (fun w' i r vs hc hr hv => marks 4 (by omega) w' i r vs (hc4.tr hc) hr hv) (few1 4 (by omega)) (fun i x r vs w3 Kc h3 hr hv hi hx hm hKc => by
      have hrow : Own w3 5 1 r vs := h3.row 4 (by omega) i r vs hr hv
      have m0 := (hm x hx).2.2.2.2 rfl
      rw [wrap_i64 (by omega)]
      refine cell_own hrow hx rfl fun ad had => ?_
      exact ldI_of (n := IntKind.u8.wrap ((i : Int) + 1)) (by have := had 0 _ (by decide) (by rw [Nat.add_zero]; exact (show vs[x * 1]? = _ by rw [Nat.mul_one]; exact m0)); rwa [add_zero'] at this) (iteB_neg (by simp) (hKc w3 (Ch.refl _ _)))) hrest
  refine step4 _ fun w5 h5 hc5 => ?_
  replace hc5 := hc4.tr hc5
  have step0 := fun (REST : World → Prop) (hrest : ∀ w', Shf T6 D w' k0 f G1 → Ch [] w5 w' → REST w') => checkG (o := 0) (n := w.heap.size) (kt := 70) (V := fun x6 s x12 w Kc => idxP s.a s.l x12 4 fun a44 => ldI .i64 a44 w fun n45 => iteB ((n45 : Int) != (IntKind.i64.wrap ((-50) - x6))) (K false w) (Kc w)) (REST := REST)
    (by omega) h5 (fun w' i r vs hc hr hv => marks 0 (by omega) w' i r vs (hc5.tr hc) hr hv) (few1 0 (by omega)) (fun i x r vs w3 Kc h3 hr hv hi hx hm hKc => by
      have hrow : Own w3 66 4 r vs := h3.row 0 (by omega) i r vs hr hv
      have m0 := (hm x hx).1 rfl
      rw [wrap_i64 (by omega)]
      refine cell_own hrow hx rfl fun ad had => ?_
      exact ldI_of (n := -50 - (i : Int)) (by have := had 0 _ (by decide) (by rw [Nat.add_zero]; exact m0); rwa [add_zero'] at this) (iteB_neg (by simp) (hKc w3 (Ch.refl _ _)))) hrest
  refine step0 _ fun w6 h6 hc6 => ?_
  replace hc6 := hc5.tr hc6
  have step3 := fun (REST : World → Prop) (hrest : ∀ w', Shf T6 D w' k0 f G1 → Ch [] w6 w' → REST w') => checkG (o := 3) (n := w.heap.size) (kt := 70) (V := fun x6 s x12 w Kc => idxP s.a s.l x12 1 fun a104 => ldS a104 w fun s105 => iteB (((s105.l : Int) : Int) != 1) (K false w) (nnP (some ⟨k0, 0, none⟩) fun a106 => ldS (a106.add 3) w fun s107 => idxP s107.a s107.l x6 1 fun a108 => ldS a108 w fun s109 => idxP s109.a s109.l x12 1 fun a110 => ldS a110 w fun s111 => idxP s111.a s111.l 0 2 fun a112 => ldI .i64 a112 w fun n113 => ldI .i64 (a112.add 1) w fun n114 => (∃ (r115 : Bool), ∃ w116, (do eqGuard .neq 70 (.tmp 201) (.tmp 204) (.agg #[.int .i64 n113, .int .i64 n114]) (.agg #[.int .i64 (IntKind.i64.wrap ((-50) - x6)), .int .i64 0]); binOp .neq 70 (.agg #[.int .i64 n113, .int .i64 n114]) (.agg #[.int .i64 (IntKind.i64.wrap ((-50) - x6)), .int .i64 0])).run Try.prog w = .ok (.bool r115) w116 ∧ (iteB r115 (K false w116) (Kc w116))))) (REST := REST)
    (by omega) h6 (fun w' i r vs hc hr hv => marks 3 (by omega) w' i r vs (hc6.tr hc) hr hv) (few1 3 (by omega)) (fun i x r vs w3 Kc h3 hr hv hi hx hm hKc => by
      have hrow : Own w3 30 1 r vs := h3.row 3 (by omega) i r vs hr hv
      obtain ⟨kb, g1, g2, g3⟩ := (hm x hx).2.2.2.1 rfl
      have cell : ∀ {K' : Slc → Prop}, K' ⟨some ⟨kb, 0, none⟩, 1, 1⟩ → idxP r.a r.l (x : Int) 1 fun a => ldS a w3 K' := fun hK' => by
        refine cell_own hrow hx rfl fun ad had => ?_
        exact ldS_of (s := ⟨some ⟨kb, 0, none⟩, 1, 1⟩) (by have := had 0 _ (by decide) (by rw [Nat.add_zero]; exact (show vs[x * 1]? = _ by rw [Nat.mul_one]; exact g2)); rwa [add_zero'] at this) hK'
      rw [wrap_i64 (by omega)]
      refine cell (iteB_neg rfl ?_)
      rw [nnP_some]
      refine h3.hd (by omega) (h3.at_ (by omega) hr rfl (cell ?_))
      refine idxP_intro (by omega) (by dsimp only; omega) rfl ?_
      refine ldI_b (o := 0) g3 rfl (ldI_b (o := 1) g3 rfl ⟨false, w3, ?_, iteB_neg rfl (hKc w3 (Ch.refl _ _))⟩)
      rw [neq_key]; simp) hrest
  refine step3 _ fun w7 h7 hc7 => ?_
  exact hK w7 (hc02.step (show Chg Nil w2 w7 from hc6.tr hc7) fun _ _ h => h.elim)
end Go.Proofs.Ytlnhecbgjjglfaa
