/- FillB: shelf.fill. -/
import Derived.Test.YtlnhecbgjjglfaaFill
import Derived.Test.YtlnhecbgjjglfaaTx
set_option linter.unusedVariables false
set_option linter.unusedSimpArgs false
namespace Go.Proofs.Ytlnhecbgjjglfaa
open Go Go.Sh Go.Pl Go.RowKit
def T6 : ShT := ⟨37, fun o => if o = 0 then 22 else if o = 1 then 30 else if o = 2 then 64 else if o = 3 then 26 else 50, fun o => if o = 0 then 66 else if o = 1 then 70 else if o = 2 then 2 else if o = 3 then 30 else 5, fun o => if o = 0 then 4 else if o = 1 then 2 else 1⟩
theorem set_at {α : Type} {l : List α} {i : Nat} {v : α} (h : i < l.length) : (l.set i v)[i]? = some v := List.getElem?_set_self h
theorem set_off {α : Type} {l : List α} {i j : Nat} {v : α} (h : i ≠ j) : (l.set i v)[j]? = l[j]? := List.getElem?_set_ne h
section
variable {D : Nat → Prop} {n : Nat}
theorem mark1 {i x : Nat} {r : Slc} {vs : List Value} {w1 : World} {K : World → Prop} (h : Own w1 70 2 r vs) (hi : i ≤ 1000000000) (hx : x < r.l) (hm : Mks n 70 1 i w1 x vs)
    (hK : ∀ w2 vs', Own w2 70 2 r vs' → Ch [blkOf r] w1 w2 → Mks n 70 1 i w2 (x + 1) vs' → K w2) : idxP r.a r.l (x : Int) 2 fun a => stP a (.int .i64 (IntKind.i64.wrap ((-50) - (i : Int)))) w1 fun w2 => stP (a.add 1) (.int .i64 0) w2 K := by
  have hl := h.len
  rw [wrap_i64 (by omega)]
  refine h.st2 hx rfl fun w2 ho hc hz => hK w2 _ ho hc fun j hj => ⟨by omega, fun _ => ?_, by omega, by omega, by omega⟩
  rcases Nat.lt_or_ge j x with g | g
  · rw [set_off (by omega), set_off (by omega), set_off (by omega), set_off (by omega)]
    exact (hm j g).2.1 rfl
  · have : j = x := by omega
    subst this
    refine ⟨?_, set_at (by simp; omega)⟩
    rw [set_off (by omega), set_at (by omega)]
theorem mark2 {i x : Nat} {r : Slc} {vs : List Value} {w1 : World} {K : World → Prop} (h : Own w1 2 1 r vs) (hi : i ≤ 1000000000) (hx : x < r.l) (hm : Mks n 70 2 i w1 x vs)
    (hK : ∀ w2 vs', Own w2 2 1 r vs' → Ch [blkOf r] w1 w2 → Mks n 70 2 i w2 (x + 1) vs' → K w2) : idxP r.a r.l (x : Int) 1 fun a => stP a (.int .i64 (IntKind.i64.wrap ((-50) - (i : Int)))) w1 K := by
  have hl := h.len
  rw [wrap_i64 (by omega)]
  refine h.st1 hx rfl fun w2 ho hc hz => hK w2 _ ho hc fun j hj => ⟨by omega, by omega, fun _ => ?_, by omega, by omega⟩
  rcases Nat.lt_or_ge j x with g | g
  · rw [set_off (by omega)]
    exact (hm j g).2.2.1 rfl
  · have : j = x := by omega
    subst this
    exact set_at (by omega)
theorem mark4 {i x : Nat} {r : Slc} {vs : List Value} {w1 : World} {K : World → Prop} (h : Own w1 5 1 r vs) (hi : i ≤ 1000000000) (hx : x < r.l) (hm : Mks n 70 4 i w1 x vs)
    (hK : ∀ w2 vs', Own w2 5 1 r vs' → Ch [blkOf r] w1 w2 → Mks n 70 4 i w2 (x + 1) vs' → K w2) : idxP r.a r.l (x : Int) 1 fun a => stP a (.int .u8 (IntKind.u8.wrap (IntKind.i64.wrap ((i : Int) + 1)))) w1 K := by
  have hl := h.len
  rw [wrap_i64 (by omega)]
  refine h.st1 hx rfl fun w2 ho hc hz => hK w2 _ ho hc fun j hj => ⟨by omega, by omega, by omega, by omega, fun _ => ?_⟩
  rcases Nat.lt_or_ge j x with g | g
  · rw [set_off (by omega)]
    exact (hm j g).2.2.2.2 rfl
  · have : j = x := by omega
    subst this
    exact set_at (by omega)
theorem mark0 {i x : Nat} {r : Slc} {vs : List Value} {w1 : World} {K : World → Prop} (h : Own w1 66 4 r vs) (hi : i ≤ 1000000000) (hx : x < r.l) (hm : Mks n 70 0 i w1 x vs)
    (hK : ∀ w2 vs', Own w2 66 4 r vs' → Ch [blkOf r] w1 w2 → Mks n 70 0 i w2 (x + 1) vs' → K w2) : idxP r.a r.l (x : Int) 4 fun a => stP a (.int .i64 (IntKind.i64.wrap ((-50) - (i : Int)))) w1 fun w2 => stP (a.add 1) (.slice none 0 0) w2 fun w3 => stP (a.add 2) (.slice none 0 0) w3 fun w4 => stP (a.add 3) (.slice none 0 0) w4 K := by
  have hl := h.len
  rw [wrap_i64 (by omega)]
  refine h.st4 hx rfl fun w2 ho hc hz => hK w2 _ ho hc fun j hj => ⟨fun _ => ?_, by omega, by omega, by omega, by omega⟩
  rw [set_off (by omega), set_off (by omega), set_off (by omega)]
  rcases Nat.lt_or_ge j x with g | g
  · rw [set_off (by omega)]
    exact (hm j g).1 rfl
  · have : j = x := by omega
    subst this
    exact set_at (by omega)
theorem mark3 {i x : Nat} {r : Slc} {vs : List Value} {w1 : World} {K : World → Prop} (h : Own w1 30 1 r vs) (hrn : ∀ k, blkOf r = some k → k < n) (hn : n ≤ w1.heap.size) (hi : i ≤ 1000000000) (hx : x < r.l) (hm : Mks n 70 3 i w1 x vs)
    (hK : ∀ w2 vs', Own w2 30 1 r vs' → Ch [blkOf r] w1 w2 → Mks n 70 3 i w2 (x + 1) vs' → K w2) : newP #[.int .i64 (IntKind.i64.wrap ((-50) - (i : Int))), .int .i64 0] 70 w1 fun a3 w4 => idxP r.a r.l (x : Int) 1 fun a => stP a (.slice (some a3) 1 1) w4 K := by
  have hl := h.len
  rw [wrap_i64 (by omega)]
  refine newB fun kb w2 hc2 hb2 hk2 hs2 => ?_
  refine (h.ch hc2 fun _ _ h => h).st1 hx rfl fun w3 ho hc hz => ?_
  have keep : ∀ {q : Nat} {cur : Array Value} {t : TypeId}, n ≤ q → Blk w2 q cur t → Blk w3 q cur t := fun hq hb => hb.ch hc fun hin => by
    have := hrn _ (show some _ = blkOf r from hin).symm
    omega
  refine hK w3 _ ho (Ch.tr' hc2 hc) fun j hj => ⟨by omega, by omega, by omega, fun _ => ?_, by omega⟩
  rcases Nat.lt_or_ge j x with g | g
  · rw [set_off (by omega)]
    obtain ⟨kq, g1, g2, g3⟩ := (hm j g).2.2.2.1 rfl
    exact ⟨kq, g1, g2, keep g1 (g3.ch0 hc2)⟩
  · have : j = x := by omega
    subst this
    exact ⟨kb, by omega, set_at (by omega), keep (by omega) hb2⟩
end
def FewG (G : Nat → GS) : Prop := ∀ o, o < 5 → (G o).rows.length ≤ 1000000000 ∧ ∀ r ∈ (G o).rows, r.l ≤ 1000000000
set_option maxHeartbeats 2000000 in
set_option maxRecDepth 20000 in
theorem fill_ok {D : Nat → Prop} {k0 : Nat} {f : Nat → Nat} {G : Nat → GS} {w : World} {K : World → Prop} (h : Shf T6 D w k0 f G) (hD : ∀ k, D k → k < w.heap.size) (few : FewG G)
    (hK : ∀ w' G', FInv T6 D w.heap.size 70 k0 f G (fun q _ => q < 5) w' G' → Chg D w w' → w.heap.size ≤ w'.heap.size → K w') : c_preludelaw06_shelf_fill (some ⟨k0, 0, none⟩) w K := by
  refine sim_preludelaw06_shelf_fill ?_
  unfold sh_preludelaw06_shelf_fill
  have h0 : FInv T6 D w.heap.size 70 k0 f G (fun _ _ => False) w G := ⟨h, fun _ => rfl, fun _ _ _ _ _ hd => hd.elim⟩
  refine fillG (o := 1) (W := fun x4 s x10 w K => idxP s.a s.l x10 2 fun a19 => stP a19 (.int .i64 (IntKind.i64.wrap ((-50) - x4))) w fun w20 => stP (a19.add 1) (.int .i64 0) w20 K) (by omega) h0 hD (Nat.le_refl _) (fun _ h => h) (few 1 (by omega)) (fun i x r vs w1 K ho hb hn hi hx hm hK => mark1 ho hi hx hm hK) fun w1 G1 h1 hc1 hz1 => ?_
  refine fillG (o := 2) (W := fun x4 s x10 w K => idxP s.a s.l x10 1 fun a19 => stP a19 (.int .i64 (IntKind.i64.wrap ((-50) - x4))) w K) (by omega) h1 hD hz1 (fun _ h => by rcases h with h | h; exact h; omega) (few 2 (by omega)) (fun i x r vs w1 K ho hb hn hi hx hm hK => mark2 ho hi hx hm hK) fun w2 G2 h2 hc2 hz2 => ?_
  refine fillG (o := 4) (W := fun x4 s x10 w K => idxP s.a s.l x10 1 fun a19 => stP a19 (.int .u8 (IntKind.u8.wrap (IntKind.i64.wrap (x4 + 1)))) w K) (by omega) h2 hD (by omega) (fun _ h => by rcases h with (h | h) | h; exact h; omega; omega) (few 4 (by omega)) (fun i x r vs w1 K ho hb hn hi hx hm hK => mark4 ho hi hx hm hK) fun w3 G3 h3 hc3 hz3 => ?_
  refine fillG (o := 0) (W := fun x4 s x10 w K => idxP s.a s.l x10 4 fun a80 => stP a80 (.int .i64 (IntKind.i64.wrap ((-50) - x4))) w fun w81 => stP (a80.add 1) (.slice none 0 0) w81 fun w82 => stP (a80.add 2) (.slice none 0 0) w82 fun w83 => stP (a80.add 3) (.slice none 0 0) w83 K) (by omega) h3 hD (by omega) (fun _ h => by rcases h with ((h | h) | h) | h; exact h; omega; omega; omega) (few 0 (by omega)) (fun i x r vs w1 K ho hb hn hi hx hm hK => mark0 ho hi hx hm hK) fun w4 G4 h4 hc4 hz4 => ?_
  refine fillG (o := 3) (W := fun x4 s x10 w K => newP #[.int .i64 (IntKind.i64.wrap ((-50) - x4)), .int .i64 0] 70 w fun a103 w104 => idxP s.a s.l x10 1 fun a105 => stP a105 (.slice (some a103) 1 1) w104 K) (by omega) h4 hD (by omega) (fun _ h => by rcases h with (((h | h) | h) | h) | h; exact h; omega; omega; omega; omega) (few 3 (by omega)) (fun i x r vs w1 K ho hb hn hi hx hm hK => mark3 ho (fun k hk => hD k (hb k hk)) hn hi hx hm hK) fun w5 G5 h5 hc5 hz5 => ?_
  have hc : Chg D w w5 := (((hc1.step hc2 fun _ _ h => h).step hc3 fun _ _ h => h).step hc4 fun _ _ h => h).step hc5 fun _ _ h => h
  refine hK w5 G5 ⟨h5.sh, h5.same, fun q hq i r vs _ g1 g2 => h5.done q hq i r vs ?_ g1 g2⟩ hc (by omega)
  rcases (by omega : q = 0 ∨ q = 1 ∨ q = 2 ∨ q = 3 ∨ q = 4) with rfl | rfl | rfl | rfl | rfl <;> simp
end Go.Proofs.Ytlnhecbgjjglfaa
