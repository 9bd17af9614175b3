/- Bld: a strings.Builder that is written. -/
import Derived.Test.YthgkehldimldgaaDoorLay
import Derived.Test.YthgkehldimldgaaDoorAsmR
import Derived.Test.YthgkehldimldgaaDoorMapI
import Derived.Test.YthgkehldimldgaaDoorBcc
import Derived.Shelf.Strings.BuilderK
import Derived.Shelf.Strings.BuilderF
set_option linter.unusedVariables false
set_option linter.unusedSimpArgs false
namespace Go.Pl
open Go Go.Sh Go.RowKit
theorem cell_bel {w w' : World} {ad : Addr} {v : Value} (hb : Below w.heap.size w w') (h : w.cell? ad = some v) : w'.cell? ad = some v := cellc h (ch_below hb)
theorem Below.down {B C : Nat} {w w' : World} (h : Below B w w') (hC : C ≤ B) : Below C w w' := ⟨h.os, h.tape, h.output, h.size, fun k hk => h.block k (by omega)⟩
theorem RdC.bel {w w' : World} {s : Slc} {cs : List (Int × Int)} (h : RdC w s cs) (hb : Below w.heap.size w w') : RdC w' s cs := h.ch0 (ch_below hb)
theorem Ch.below {w w' : World} (h : Ch [] w w') : Below w.heap.size w w' := ⟨h.os, h.tape, h.output, h.size, fun k hk => h.blk k hk fun h => h⟩
end Go.Pl
namespace Go.Proofs.YthgkehldimldgaaDoor
open Go Go.Sh Go.Pl Go.RowKit Go.Lang Go.Names Go.Lib
def Bd (w : World) (B b : Nat) (l : List UInt8) : Prop := Lib.IsBuilderF 45 5 B b (Lib.byteCells l) w ∧ B ≤ w.heap.size
structure Bk (B b : Nat) (w w' : World) : Prop where
  below : Below B w w'
  oth : Lib.OthersKept 5 (some b) w w'
variable {B b : Nat} {w w' w1 w2 : World}
theorem Bk.refl (B b : Nat) (w : World) : Bk B b w w := ⟨Below.refl _ _, Lib.OthersKept.refl _ _ _⟩
theorem Bk.trans (h : Bk B b w w1) (k : Bk B b w1 w2) : Bk B b w w2 := ⟨h.below.trans k.below, h.oth.trans k.oth⟩
theorem Bk.of0 (h : Ch [] w w') (hB : B ≤ w.heap.size) : Bk B b w w' :=
  ⟨Below.down (Ch.below h) hB, fun k o hk _ _ => by rw [h.blk k (Array.getElem?_eq_some_iff.1 hk).1 fun h => h]; exact hk⟩
theorem Bk.blk {k : Nat} {cur : Array Value} {t : TypeId} (h : Bk B b w w') (hb : Blk w k cur t) (ht : t ≠ 5) (hk : k ≠ b) : Blk w' k cur t :=
  h.oth k _ hb (fun e => hk (Option.some.inj e)) (fun c fz e => by cases e; exact ht rfl)
theorem Bk.map {r : Nat} {f : Int → Int} (h : Bk B b w w') (hm : MapI w r f) (hk : r ≠ b) : MapI w' r f := by
  obtain ⟨es, clock, h1, h2⟩ := hm
  exact ⟨es, clock, h.oth r _ h1 (fun e => hk (Option.some.inj e)) (fun c fz e => by cases e), h2⟩
theorem Bd.ch0 {l : List UInt8} (h : Bd w B b l) (hc : Ch [] w w') : Bd w' B b l := by
  refine ⟨?_, Nat.le_trans h.2 hc.size⟩
  have at_ : ∀ {p : Value}, Lib.BuilderAtF 45 5 B b p (Lib.byteCells l) w → Lib.BuilderAtF 45 5 B b p (Lib.byteCells l) w' := fun {p} h => by
    obtain ⟨hB, v, hb, ⟨ho1, ho2⟩, hne⟩ := h
    have keep : ∀ {k : Nat} {o : Obj}, w.heap[k]? = some o → w'.heap[k]? = some o := fun {k o} hk => by rw [hc.blk k (Array.getElem?_eq_some_iff.1 hk).1 fun h => h]; exact hk
    refine ⟨hB, v, keep hb, ⟨ho1, ?_⟩, hne⟩
    rcases ho2 with h0 | ⟨g, cap, cur, fz, h1, h2, h3, h4⟩
    · exact .inl h0
    · exact .inr ⟨g, cap, cur, fz, h1, h2, keep h3, h4⟩
  exact h.1.elim (fun x => .inl (at_ x)) (fun x => .inr (at_ x))
theorem Bd.lt {l : List UInt8} (h : Bd w B b l) : b < w.heap.size := by
  rcases h.1 with ⟨_, v, hb, _⟩ | ⟨_, v, hb, _⟩ <;> exact (Array.getElem?_eq_some_iff.1 hb).1
theorem Bd.new {k : Nat} (hb : Blk w k #[.pointer none, .slice none 0 0] 45) (hB : B ≤ k) : Bd w B k [] := by
  refine ⟨.inl ⟨hB, .slice none 0 0, hb, World.ownsRowF_nil _ _ _ _, by simp [Value.ownBlock]⟩, ?_⟩
  have := hb.lt; omega
theorem cc_ok {l : List UInt8} {K : World → Prop} (h : Bd w B b l)
    (hK : ∀ w', Lib.BuilderAtF 45 5 B b (.pointer (some ⟨b, 0, none⟩)) (Lib.byteCells l) w' → Bk B b w w' → K w') : c_strings_Builder_copyCheck (some ⟨b, 0, none⟩) w K := by
  rcases h.1 with h1 | h1
  · refine Calls.mono (copyCheck_fresh b w h1.cell0 h1.shape h1.frozen0) fun e w' hh => ?_
    obtain ⟨rfl, rfl⟩ := hh
    exact ⟨rfl, hK _ (h1.used _) ⟨(Below.refl B w).setCell (p := ⟨b, 0, none⟩) h1.1 _, (Lib.OthersKept.refl _ _ w).setCell ⟨b, 0, none⟩ rfl _⟩⟩
  · refine Calls.mono (copyCheck_used b w h1.cell0) fun e w' hh => ?_
    obtain ⟨rfl, rfl⟩ := hh
    exact ⟨rfl, hK _ h1 (Bk.refl _ _ _)⟩
theorem strT' : Tryd.prog.underlying 9 = some .string := by kernel_rfl
theorem infoByte : (Tryd.prog.info? 5).map (fun i => (i.zero, i.size, i.bytes)) = some (some (.int .u8 0), 1, 1) := by kernel_rfl
theorem write_ok {l : List UInt8} {s : ByteArray} {K : Int → Value → World → Prop} (h : Bd w B b l) (hl : l.length + s.size ≤ 140737488355328)
    (hK : ∀ w', Bd w' B b (l ++ s.data.toList) → Bk B b w w' → K (s.size : Int) .nilIface w') : c_strings_Builder_WriteString (some ⟨b, 0, none⟩) s w K := by
  refine sim_strings_Builder_WriteString ?_
  unfold sh_strings_Builder_WriteString
  refine cc_ok h fun w1 h1 hk1 => ?_
  obtain ⟨hB, v, hbk, hown, hne⟩ := h1
  have hlt : b < w1.heap.size := (Array.getElem?_eq_some_iff.1 hbk).1
  have hB1 : B ≤ w1.heap.size := Nat.le_trans h.2 hk1.below.size
  obtain ⟨i0, hi, hi2⟩ := Option.map_eq_some_iff.1 infoByte
  simp only [Prod.mk.injEq] at hi2
  obtain ⟨hz0, hz1, hz2⟩ := hi2
  have isSl : ∀ {v' : Value} {n : Nat} {xs : List Value} {w' : World}, w'.ownsRowF B 5 1 v' n xs → ∃ s' : Slc, v' = .slice s'.a s'.l s'.c := fun {v' n xs w'} ho => by
    rcases ho.2 with ⟨hv, _⟩ | ⟨g, cap, cur, fz, hv, _⟩
    · exact ⟨⟨none, 0, 0⟩, hv⟩
    · exact ⟨⟨some ⟨g, 0, none⟩, n, cap⟩, hv⟩
  obtain ⟨s3, rfl⟩ := isSl hown
  rw [nnP_some]
  have hBlk : Blk w1 b #[.pointer (some ⟨b, 0, none⟩), .slice s3.a s3.l s3.c] 45 := hbk
  refine ldS_b (o := 1) (s := s3) hBlk rfl ?_
  obtain ⟨v', w2, hrun, hown', hgrow, _⟩ := Lib.run_append_own_stringF (P := Tryd.prog) w1 B 43 9 43 5 i0 sliceT strT' hi hz0 hz1 hz2 _ _ _ hown s (by rw [Lib.byteCells_length]; unfold maxLen; omega) (by rw [Lib.byteCells_length]; exact hl) hB1
  obtain ⟨s5, rfl⟩ := isSl hown'
  refine ⟨s5, w2, hrun, ?_⟩
  have hb2 : w2.heap[b]? = some (.cells #[.pointer (some ⟨b, 0, none⟩), .slice s3.a s3.l s3.c] 45 (0, 0)) := by
    rw [hgrow.block b hlt (fun e => hne e.symm)]; exact hbk
  have hBlk2 : Blk w2 b #[.pointer (some ⟨b, 0, none⟩), .slice s3.a s3.l s3.c] 45 := hb2
  dsimp only
  rw [nnP_some, add_mk, Nat.zero_add]
  have e : Lib.byteCells l ++ Lib.strCells s = Lib.byteCells (l ++ s.data.toList) := by
    rw [Lib.strCells_eq]; simp [Lib.byteCells]
  rw [e] at hown'
  have hown2 : w2.ownsRowF B 5 1 (.slice s5.a s5.l s5.c) (Lib.byteCells (l ++ s.data.toList)).length (Lib.byteCells (l ++ s.data.toList)) := by
    have : (Lib.byteCells l).length + s.size = (Lib.byteCells (l ++ s.data.toList)).length := by
      rw [Lib.byteCells_length, Lib.byteCells_length, List.length_append, size_list]
    rwa [this] at hown'
  have hput := Lib.BuilderAtF.put (T := 45) (e := 5) hB hb2 hown2 (by decide)
  have hrow : ∀ g, (Value.slice s3.a s3.l s3.c).ownBlock = some g → ∃ c fz, w1.heap[g]? = some (.cells c 5 fz) := Lib.ownsRowF_kind hown
  refine ⟨⟨_, by rw [hBlk2.cell]; rfl⟩, hBlk2.frozen 1, ?_⟩
  refine hK _ ⟨.inr hput, ?_⟩ ⟨?_, ?_⟩
  · have := hgrow.size
    show B ≤ (w2.setCell _ _).heap.size
    simp [World.setCell]; omega
  · exact (hk1.below.grown hgrow hB1 (fun k hk => (hown.lt k hk).1)).setCell (p := ⟨b, 1, none⟩) hB _
  · exact (hk1.oth.grown hgrow hrow).setCell ⟨b, 1, none⟩ rfl _
theorem blen_ok {l : List UInt8} {K : Int → World → Prop} (h : Bd w B b l) (hK : K (l.length : Int) w) : c_strings_Builder_Len (some ⟨b, 0, none⟩) w K := by
  refine Calls.mono (Any.Builder_Len_f Tryd.lays170 B b (Lib.byteCells l) w h.1) fun e w' hh => ?_
  obtain ⟨rfl, rfl⟩ := hh
  rw [Lib.byteCells_length]
  exact ⟨_, rfl, hK⟩
theorem bstr_ok {l : List UInt8} {K : ByteArray → World → Prop} (h : Bd w B b l) (hK : ∀ w', Below B w w' → K ⟨l.toArray⟩ w') : c_strings_Builder_String (some ⟨b, 0, none⟩) w K := by
  refine Calls.mono (Any.Builder_String_any_k Tryd.lays169 Tryd.Builder_Extra_169 B b l w h.1 h.2) fun e w' hh => ?_
  obtain ⟨rfl, _, h2, _⟩ := hh
  exact ⟨_, rfl, hK w' h2⟩
end Go.Proofs.YthgkehldimldgaaDoor
