/- Apart: shelf.grow, shelf.apart. -/
import Derived.Test.YtlnhecbgjjglfaaGrowS
import Derived.Test.YtlnhecbgjjglfaaFillB
import Derived.Test.YtlnhecbgjjglfaaTxB
set_option linter.unusedVariables false
set_option linter.unusedSimpArgs false
namespace Go.Pl
open Go Go.Sh Go.RowKit
section
variable {T : ShT} {D : Nat → Prop} {n : Nat} {kt : TypeId} {k0 : Nat} {f : Nat → Nat} {G : Nat → GS}
/-- A group is looked over. -/
theorem checkG {o : Nat} (ho : o < 5) {V : Int → Slc → Int → World → (World → Prop) → Prop} {REST : World → Prop} {w : World} (h : Shf T D w k0 f G) (hm : ∀ (w' : World) (i : Nat) (r : Slc) (vs : List Value), Ch [] w w' → (G o).rows[i]? = some r → (G o).vss[i]? = some vs → Mks n kt o i w' r.l vs)
    (few : (G o).rows.length ≤ 1000000000 ∧ ∀ r ∈ (G o).rows, r.l ≤ 1000000000)
    (hV : ∀ (i x : Nat) (r : Slc) (vs : List Value) (w1 : World) (K : World → Prop), Shf T D w1 k0 f G → (G o).rows[i]? = some r → (G o).vss[i]? = some vs → i ≤ 1000000000 → x < r.l → Mks n kt o i w1 r.l vs → (∀ w2, Ch [] w1 w2 → K w2) → V (i : Int) r (x : Int) w1 K)
    (hrest : ∀ w', Shf T D w' k0 f G → Ch [] w w' → REST w') :
    loopP (σ := Int × Unit) (fun st2 next1 w3 => (fun (x4 : Int) => nnP (some ⟨k0, 0, none⟩) fun a5 => ldS (a5.add o) w3 fun s6 => iteB (decide ((x4 : Int) < (s6.l : Int)))
      (loopP (σ := Int × Unit) (fun st8 next7 w9 => (fun (x10 : Int) => nnP (some ⟨k0, 0, none⟩) fun a11 => ldS (a11.add o) w9 fun s12 => idxP s12.a s12.l x4 1 fun a13 => ldS a13 w9 fun s14 => iteB (decide ((x10 : Int) < (s14.l : Int)))
        (nnP (some ⟨k0, 0, none⟩) fun a15 => ldS (a15.add o) w9 fun s16 => idxP s16.a s16.l x4 1 fun a17 => ldS a17 w9 fun s18 => V x4 s18 x10 w9 fun w21 => next7 ((IntKind.i64.wrap (x10 + 1)), ()) w21)
        (next1 ((IntKind.i64.wrap (x4 + 1)), ()) w9)) st8.1) (0, ()) w3)
      (REST w3)) st2.1) (0, ()) w := by
  refine loopP_inv (fun st w1 => ∃ i : Nat, st.1 = (i : Int) ∧ i ≤ (G o).rows.length ∧ Ch [] w w1) (fun st _ => (G o).rows.length - st.1.toNat) ⟨0, rfl, Nat.zero_le _, Ch.refl _ _⟩ ?_
  rintro ⟨i0, u⟩ w1 next1 ⟨i, rfl, hi, hc1⟩ hnext1
  dsimp only
  rw [nnP_some]
  have h1 := h.ch0 hc1
  have hl1 := h1.hl ho
  refine h1.hd ho (iteB_dec (fun hh => ?_) (fun hh => hrest w1 h1 hc1))
  have hlt : i < (G o).rows.length := by omega
  have hr : (G o).rows[i]? = some (G o).rows[i] := by simp
  have hrl := few.2 _ (List.getElem_mem hlt)
  have hvl : i < (G o).vss.length := by rw [← h1.len o ho]; exact hlt
  have hv : (G o).vss[i]? = some (G o).vss[i] := by simp
  generalize (G o).rows[i] = r at hr hrl
  generalize (G o).vss[i] = vs at hv
  refine loopP_inv (fun st w2 => ∃ x : Nat, st.1 = (x : Int) ∧ x ≤ r.l ∧ Ch [] w w2) (fun st _ => r.l - st.1.toNat) ⟨0, rfl, Nat.zero_le _, hc1⟩ ?_
  rintro ⟨x0, u⟩ w2 next7 ⟨x, rfl, hx, hc2⟩ hnext7
  dsimp only
  have h2 := h.ch0 hc2
  rw [nnP_some]
  refine h2.hd ho (h2.at_ ho hr rfl (iteB_dec (fun hh => ?_) (fun hh => ?_)))
  · rw [nnP_some]
    refine h2.hd ho (h2.at_ ho hr rfl ?_)
    refine hV i x r vs w2 _ h2 hr hv (by omega) (by omega) (hm w2 i r vs hc2 hr hv) fun w3 hc3 => ?_
    rw [wrap_i64 (by omega)]
    exact hnext7 _ _ ⟨x + 1, by simp, by omega, hc2.tr hc3⟩ (by simp; omega)
  · rw [wrap_i64 (by omega)]
    exact hnext1 _ _ ⟨i + 1, by simp, hlt, hc2⟩ (by simp; omega)
end
theorem cell_own {w : World} {e : TypeId} {sz : Nat} {s : Slc} {vs : List Value} {x : Nat} {x' : Int} {K : Addr → Prop} (h : Own w e sz s vs) (hx : x < s.l) (hx' : x' = (x : Int)) (hK : ∀ ad : Addr, (∀ (c : Nat) (v : Value), c < sz → vs[x * sz + c]? = some v → w.cell? (ad.add c) = some v) → K ad) : idxP s.a s.l x' sz K := by
  subst hx'
  rcases h.2 with ⟨hs, hn⟩ | ⟨g, cap, cur, hs, _⟩
  · omega
  · have e1 : s.a = some ⟨g, 0, none⟩ := by injection hs
    refine idxP_intro (by omega) (by omega) e1 (hK _ fun c v hc hv => ?_)
    rw [Int.toNat_natCast, Deep.add_add]
    exact World.ownsRow.cells h (g := g) (by rw [e1]; rfl) _ _ hv
end Go.Pl
namespace Go.Proofs.Ytlnhecbgjjglfaa
open Go Go.Sh Go.Pl Go.RowKit
theorem TU6 : ElT Try.prog 50 5 (.int .u8 0) 1 1 := ⟨by kernel_rfl, by kernel_rfl, rfl, by decide⟩
theorem TKK : ElT Try.prog 26 30 (.slice none 0 0) 1 24 := ⟨by kernel_rfl, by kernel_rfl, rfl, by decide⟩
theorem apx1 : Apx 70 2 fun x4 s w K => newP #[.int .i64 (IntKind.i64.wrap ((-50) - x4)), .int .i64 0] 70 w fun a w1 => apP Try.prog #[30, 30] 30 [.slice s.a s.l s.c, .slice (some a) 1 1] w1 K := fun i s vs w K ho hl hi hK =>
  apS1 TKy rfl (fun u hu => by simp at hu; rcases hu with rfl | rfl <;> rfl) ho (by omega) (by omega) fun s' w' h1 h2 h3 h4 h5 => hK s' w' _ h1 h2 h3 h4 h5 fun u hu => by simp at hu; rcases hu with rfl | rfl <;> rfl
theorem apx2 : Apx 2 1 fun x4 s w K => newP #[.int .i64 (IntKind.i64.wrap ((-50) - x4))] 2 w fun a w1 => apP Try.prog #[64, 64] 64 [.slice s.a s.l s.c, .slice (some a) 1 1] w1 K := fun i s vs w K ho hl hi hK =>
  apS1 TI6 rfl (fun u hu => by simp at hu; rcases hu with rfl; rfl) ho (by omega) (by omega) fun s' w' h1 h2 h3 h4 h5 => hK s' w' _ h1 h2 h3 h4 h5 fun u hu => by simp at hu; rcases hu with rfl; rfl
theorem apx4 : Apx 5 1 fun x4 s w K => newP #[.int .u8 (IntKind.u8.wrap (IntKind.i64.wrap (x4 + 1)))] 5 w fun a w1 => apP Try.prog #[50, 50] 50 [.slice s.a s.l s.c, .slice (some a) 1 1] w1 K := fun i s vs w K ho hl hi hK =>
  apS1 TU6 rfl (fun u hu => by simp at hu; rcases hu with rfl; rfl) ho (by omega) (by omega) fun s' w' h1 h2 h3 h4 h5 => hK s' w' _ h1 h2 h3 h4 h5 fun u hu => by simp at hu; rcases hu with rfl; rfl
theorem apx0 : Apx 66 4 fun x4 s w K => newP #[.int .i64 (IntKind.i64.wrap ((-50) - x4)), .slice none 0 0, .slice none 0 0, .slice none 0 0] 66 w fun a w1 => apP Try.prog #[22, 22] 22 [.slice s.a s.l s.c, .slice (some a) 1 1] w1 K := fun i s vs w K ho hl hi hK =>
  apS1 TTx rfl (fun u hu => by simp at hu; rcases hu with rfl | rfl <;> rfl) ho (by omega) (by omega) fun s' w' h1 h2 h3 h4 h5 => hK s' w' _ h1 h2 h3 h4 h5 fun u hu => by simp at hu; rcases hu with rfl | rfl <;> rfl
theorem apx3 : Apx 30 1 fun x4 s w K => newP #[.int .i64 (IntKind.i64.wrap ((-50) - x4)), .int .i64 0] 70 w fun b w0 => newP #[.slice (some b) 1 1] 30 w0 fun a w1 => apP Try.prog #[26, 26] 26 [.slice s.a s.l s.c, .slice (some a) 1 1] w1 K := fun i s vs w K ho hl hi hK =>
  newB fun b w1 hc1 hb1 hk1 hs1 => apS1 TKK rfl (fun u hu => by simp at hu; rcases hu with rfl; rfl) (ho.ch hc1 fun _ _ h => h) (by omega) (by omega) fun s' w' h1 h2 h3 h4 h5 => hK s' w' _ h1 h2 (Ch.tr' hc1 h3) (h4) (h5.imp id fun h k hk => by have := h k hk; omega) fun u hu => by simp at hu; rcases hu with rfl; rfl
set_option maxHeartbeats 2000000 in
set_option maxRecDepth 20000 in
theorem grow_ok {D : Nat → Prop} {k0 n : Nat} {f : Nat → Nat} {G : Nat → GS} {w : World} {K : World → Prop} (h : Shf T6 D w k0 f G) (hD : ∀ k, D k → k < n) (hz : n ≤ w.heap.size) (few : FewG G)
    (hK : ∀ w', Shf T6 D w' k0 f G → Chg (fun k => D k ∨ w.heap.size ≤ k) w w' → w.heap.size ≤ w'.heap.size → K w') : c_preludelaw06_shelf_grow (some ⟨k0, 0, none⟩) w K := by
  refine sim_preludelaw06_shelf_grow ?_
  unfold sh_preludelaw06_shelf_grow
  have hD' : ∀ k, D k → k < w.heap.size := fun k hk => by have := hD k hk; omega
  have st : ∀ {a b c : World}, Chg (fun k => D k ∨ w.heap.size ≤ k) a b → Chg (fun k => D k ∨ w.heap.size ≤ k) b c → Chg (fun k => D k ∨ w.heap.size ≤ k) a c := fun h1 h2 => h1.step h2 fun _ _ h => h
  refine growA' (o := 1) (c := 1) (ac := fun a => a.add 1) (N := 24) (v := .int .i64 1) (sz := 2) (e := 70) (X := fun x4 s w K => newP #[.int .i64 (IntKind.i64.wrap ((-50) - x4)), .int .i64 0] 70 w fun a w1 => apP Try.prog #[30, 30] 30 [.slice s.a s.l s.c, .slice (some a) 1 1] w1 K) (by omega) rfl rfl (fun _ => rfl) TKy (by omega) (by omega) rfl apx1 h hD' (Nat.le_refl _) (few 1 (by omega)) (by omega) fun w1 h1 hc1 hz1 => ?_
  refine growA' (o := 2) (c := 0) (ac := fun a => a) (N := 24) (v := .int .i64 1) (sz := 1) (e := 2) (X := fun x4 s w K => newP #[.int .i64 (IntKind.i64.wrap ((-50) - x4))] 2 w fun a w1 => apP Try.prog #[64, 64] 64 [.slice s.a s.l s.c, .slice (some a) 1 1] w1 K) (by omega) rfl rfl (fun a => (add_zero' a).symm) TI6 (by omega) (by omega) rfl apx2 h1 hD' hz1 (few 2 (by omega)) (by omega) fun w2 h2 hc2 hz2 => ?_
  refine growA' (o := 4) (c := 0) (ac := fun a => a) (N := 64) (v := .int .u8 0) (sz := 1) (e := 5) (X := fun x4 s w K => newP #[.int .u8 (IntKind.u8.wrap (IntKind.i64.wrap (x4 + 1)))] 5 w fun a w1 => apP Try.prog #[50, 50] 50 [.slice s.a s.l s.c, .slice (some a) 1 1] w1 K) (by omega) rfl rfl (fun a => (add_zero' a).symm) TU6 (by omega) (by omega) rfl apx4 h2 hD' (by omega) (few 4 (by omega)) (by omega) fun w3 h3 hc3 hz3 => ?_
  refine growB' (o := 0) (sz := 4) (e := 66) (N := 24) (X := fun x4 s w K => newP #[.int .i64 (IntKind.i64.wrap ((-50) - x4)), .slice none 0 0, .slice none 0 0, .slice none 0 0] 66 w fun a w1 => apP Try.prog #[22, 22] 22 [.slice s.a s.l s.c, .slice (some a) 1 1] w1 K) (by omega) rfl rfl apx0 h3 hD' (by omega) (few 0 (by omega)) (by omega) fun w4 h4 hc4 hz4 => ?_
  refine growB' (o := 3) (sz := 1) (e := 30) (N := 24) (X := fun x4 s w K => newP #[.int .i64 (IntKind.i64.wrap ((-50) - x4)), .int .i64 0] 70 w fun b w0 => newP #[.slice (some b) 1 1] 30 w0 fun a w1 => apP Try.prog #[26, 26] 26 [.slice s.a s.l s.c, .slice (some a) 1 1] w1 K) (by omega) rfl rfl apx3 h4 hD' (by omega) (few 3 (by omega)) (by omega) fun w5 h5 hc5 hz5 => ?_
  exact hK w5 h5 (st (st (st (st hc1 hc2) hc3) hc4) hc5) (by omega)
end Go.Proofs.Ytlnhecbgjjglfaa
