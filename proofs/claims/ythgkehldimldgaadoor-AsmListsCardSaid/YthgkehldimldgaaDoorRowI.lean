/- RowI: rows of numbers in a block of one's own: reading and writing a place. -/
import Derived.Test.YthgkehldimldgaaDoorSb
set_option linter.unusedVariables false
set_option linter.unusedSimpArgs false
namespace Go.Pl
open Go Go.Sh Go.RowKit
theorem nin1' {k b : Nat} (h : k ≠ b) : ¬ inL [some b] k := fun hin => h (by
  have hin : some k = some b := hin
  cases hin; rfl)
/-- A block that holds these numbers. -/
def RowI (w : World) (b : Nat) (k : IntKind) (t : TypeId) (ds : List Int) : Prop := Blk w b (Is k ds).toArray t
@[grind →] theorem RowI.ch0 {w w' : World} {b : Nat} {k : IntKind} {t : TypeId} {ds : List Int} (h : RowI w b k t ds) (hc : Ch [] w w') : RowI w' b k t ds := Blk.ch0 h hc
@[grind →] theorem RowI.ch {L : List (Option Nat)} {w w' : World} {b : Nat} {k : IntKind} {t : TypeId} {ds : List Int} (h : RowI w b k t ds) (hc : Ch L w w') (hn : ¬ inL L b) : RowI w' b k t ds := Blk.ch h hc hn
theorem RowI.drw {w w' : World} {b : Nat} {k : IntKind} {t : TypeId} {ds : List Int} (h : RowI w b k t ds) (hc : Drw w w') : RowI w' b k t ds := Blk.drw h hc
@[grind →] theorem RowI.below {w : World} {b : Nat} {k : IntKind} {t : TypeId} {ds : List Int} (h : RowI w b k t ds) : b < w.heap.size := Blk.lt h
theorem Is_set (k : IntKind) (ds : List Int) (i : Nat) (v : Int) : (Is k ds).toArray.setIfInBounds i (.int k v) = (Is k (ds.set i v)).toArray := by
  simp [Is]
theorem RowI.get {w : World} {b n : Nat} {k : IntKind} {t : TypeId} {ds : List Int} {i v : Int} {K : Int → Prop} (h : RowI w b k t ds) (hn : n = ds.length) (h0 : 0 ≤ i) (hv : ds[i.toNat]? = some v) (hK : K v) :
    idxP (some ⟨b, 0, none⟩) n i 1 fun a => ldI k a w K := by
  subst hn
  have h1 := (List.getElem?_eq_some_iff.1 hv).1
  refine ⟨h0, by omega, _, rfl, ?_⟩
  rw [Nat.mul_one]
  exact ldI_b h (by rw [List.getElem?_toArray, Is_at k ds h1, (List.getElem?_eq_some_iff.1 hv).2]) hK
theorem RowI.set {w : World} {b n : Nat} {k : IntKind} {t : TypeId} {ds : List Int} {i v : Int} {K : World → Prop} (h : RowI w b k t ds) (hn : n = ds.length) (h0 : 0 ≤ i) (h1 : i.toNat < ds.length)
    (hK : ∀ w', Ch [some b] w w' → RowI w' b k t (ds.set i.toNat v) → w'.heap.size = w.heap.size → K w') : idxP (some ⟨b, 0, none⟩) n i 1 fun a => stP a (.int k v) w K := by
  subst hn
  refine ⟨h0, by omega, _, rfl, ?_⟩
  rw [Nat.mul_one]
  refine stB h (by simpa using h1) fun w' hc hb hs => hK w' hc ?_ hs
  unfold RowI
  rw [← Is_set]; exact hb
theorem RowI.rd {w : World} {b : Nat} {k : IntKind} {t : TypeId} {ds : List Int} (h : RowI w b k t ds) : Rd w ⟨some ⟨b, 0, none⟩, ds.length, ds.length⟩ (Is k ds) := by
  have := Blk.rd h (o := 0) (l := ds.length) (c := ds.length) (by simp) (Nat.le_refl _)
  rwa [List.drop_zero, List.take_of_length_le (by simp)] at this
theorem Rd.get {w : World} {s : Slc} {k : IntKind} {ds : List Int} {i v : Int} {K : Int → Prop} (h : Rd w s (Is k ds)) (h0 : 0 ≤ i) (hv : ds[i.toNat]? = some v) (hK : K v) : idxP s.a s.l i 1 fun a => ldI k a w K := by
  have h1 := (List.getElem?_eq_some_iff.1 hv).1
  exact h.idx h0 (by simp; omega) fun ad had => ldI_of (by rw [had, Is_at k ds h1, (List.getElem?_eq_some_iff.1 hv).2]) hK
theorem madeI (k : IntKind) (n : Nat) : (madeCells (Value.int k 0).cells (n * 1)) = (Is k (List.replicate n 0)).toArray := by
  rw [← Array.toList_inj, show (Value.int k 0).cells = #[Value.int k 0] from rfl, Nat.mul_one, madeCells_one]
  simp [Is]
/-- A slice of numbers at the front of a block of its own; behind them there may be room. -/
structure RowX (w : World) (s : Slc) (b : Nat) (k : IntKind) (t : TypeId) (ds : List Int) (rest : List Value) : Prop where
  a : s.a = some ⟨b, 0, none⟩
  l : s.l = ds.length
  c : s.l ≤ s.c
  blk : Blk w b (Is k ds ++ rest).toArray t
theorem RowX.ch0 {w w' : World} {s : Slc} {b : Nat} {k : IntKind} {t : TypeId} {ds : List Int} {rest : List Value} (h : RowX w s b k t ds rest) (hc : Ch [] w w') : RowX w' s b k t ds rest := ⟨h.a, h.l, h.c, h.blk.ch0 hc⟩
theorem RowX.ch {L : List (Option Nat)} {w w' : World} {s : Slc} {b : Nat} {k : IntKind} {t : TypeId} {ds : List Int} {rest : List Value} (h : RowX w s b k t ds rest) (hc : Ch L w w') (hn : ¬ inL L b) : RowX w' s b k t ds rest := ⟨h.a, h.l, h.c, h.blk.ch hc hn⟩
theorem RowX.below {w : World} {s : Slc} {b : Nat} {k : IntKind} {t : TypeId} {ds : List Int} {rest : List Value} (h : RowX w s b k t ds rest) : b < w.heap.size := h.blk.lt
theorem RowX.get {w : World} {s : Slc} {b : Nat} {k : IntKind} {t : TypeId} {ds : List Int} {rest : List Value} {i v : Int} {K : Int → Prop} (h : RowX w s b k t ds rest) (h0 : 0 ≤ i) (hv : ds[i.toNat]? = some v) (hK : K v) : idxP s.a s.l i 1 fun a => ldI k a w K := by
  have h1 := (List.getElem?_eq_some_iff.1 hv).1
  refine ⟨h0, by rw [h.l]; omega, _, h.a, ?_⟩
  rw [Nat.mul_one]
  exact ldI_b h.blk (by rw [List.getElem?_toArray, List.getElem?_append_left (by simpa using h1), Is_at k ds h1, (List.getElem?_eq_some_iff.1 hv).2]) hK
theorem RowX.set {w : World} {s : Slc} {b : Nat} {k : IntKind} {t : TypeId} {ds : List Int} {rest : List Value} {i v : Int} {K : World → Prop} (h : RowX w s b k t ds rest) (h0 : 0 ≤ i) (h1 : i.toNat < ds.length)
    (hK : ∀ w', Ch [some b] w w' → RowX w' s b k t (ds.set i.toNat v) rest → w'.heap.size = w.heap.size → K w') : idxP s.a s.l i 1 fun a => stP a (.int k v) w K := by
  refine ⟨h0, by rw [h.l]; omega, _, h.a, ?_⟩
  rw [Nat.mul_one]
  refine stB h.blk (by simp; omega) fun w' hc hb hs => hK w' hc ⟨h.a, by rw [h.l]; simp, h.c, ?_⟩ hs
  have e : (Is k ds ++ rest).toArray.setIfInBounds i.toNat (.int k v) = (Is k (ds.set i.toNat v) ++ rest).toArray := by
    rw [← Array.toList_inj]
    simp only [Array.toList_setIfInBounds]
    rw [List.set_append_left _ _ (by simpa using h1)]
    simp [Is]
  rw [← e]; exact hb
theorem RowX.rd {w : World} {s : Slc} {b : Nat} {k : IntKind} {t : TypeId} {ds : List Int} {rest : List Value} (h : RowX w s b k t ds rest) : Rd w s (Is k ds) :=
  ⟨by rw [h.l]; simp, h.c, fun i hi => ⟨_, h.a, by
    rw [add_mk, Nat.zero_add, h.blk.cell, List.getElem?_toArray, List.getElem?_append_left hi]⟩⟩
theorem RowX.of_own {w : World} {t : TypeId} {s : Slc} {k : IntKind} {ds : List Int} (h : Own w t 1 s (Is k ds)) (hne : ds ≠ []) : ∃ b rest, RowX w s b k t ds rest ∧ blkOf s = some b := by
  have hl : s.l = ds.length := by have := h.rd.len; simpa using this
  have hc := h.rd.cap
  have hpos : 0 < ds.length := List.length_pos_iff.2 hne
  rcases h.2 with ⟨hs, hn⟩ | ⟨g, cap, cur, hs, hb, hg, hnc, hcm, hcs, htake⟩
  · omega
  · injection hs with h1 h2 h3
    refine ⟨g, cur.toList.drop ds.length, ⟨h1, hl, hc, ?_⟩, by simp [blkOf, h1]⟩
    have e : (Is k ds ++ cur.toList.drop ds.length).toArray = cur := by
      rw [Nat.mul_one, hl] at htake
      rw [← htake, List.take_append_drop]
    rw [e]; exact hg
end Go.Pl
