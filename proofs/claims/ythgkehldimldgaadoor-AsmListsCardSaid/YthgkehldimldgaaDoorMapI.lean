/- MapI: a map from numbers to numbers: what stands at each. -/
import Derived.Test.YthgkehldimldgaaDoorFr
import Derived.WideMake
import Derived.MapKept
set_option linter.unusedVariables false
set_option linter.unusedSimpArgs false
namespace Go.Pl
open Go Go.Sh Go.RowKit
/-- A map, as the number that stands at each number; none: 0. -/
def MapI (w : World) (r : Nat) (f : Int → Int) : Prop := ∃ (es : Array MapEntry) (clock : Nat), w.heap[r]? = some (.map es clock) ∧
  (∀ (i : Nat) (e : MapEntry), es[i]? = some e → ∃ k v : Int, e.key = .int .i64 k ∧ e.val = .int .i64 v ∧ f k = v) ∧
  (∀ k : Int, (∀ (i : Nat) (e : MapEntry), es[i]? = some e → e.key ≠ .int .i64 k) → f k = 0) ∧
  (∀ (i j : Nat) (e e' : MapEntry), es[i]? = some e → es[j]? = some e' → e.key = e'.key → i = j)
theorem MapI.ch {L : List (Option Nat)} {w w' : World} {r : Nat} {f : Int → Int} (h : MapI w r f) (hc : Ch L w w') (hn : ¬ inL L r) : MapI w' r f := by
  obtain ⟨es, clock, h1, h2⟩ := h
  refine ⟨es, clock, ?_, h2⟩
  rw [hc.blk r (Array.getElem?_eq_some_iff.1 h1).1 hn]; exact h1
theorem MapI.ch0 {w w' : World} {r : Nat} {f : Int → Int} (h : MapI w r f) (hc : Ch [] w w') : MapI w' r f := h.ch hc fun h => h
theorem MapI.lt {w : World} {r : Nat} {f : Int → Int} (h : MapI w r f) : r < w.heap.size := by
  obtain ⟨es, clock, h1, _⟩ := h
  exact (Array.getElem?_eq_some_iff.1 h1).1
theorem mapI_find {es : Array MapEntry} {f : Int → Int} (hA : ∀ (i : Nat) (e : MapEntry), es[i]? = some e → ∃ k v : Int, e.key = .int .i64 k ∧ e.val = .int .i64 v ∧ f k = v) (k : Int) :
    (Instr.findNow (.int .i64) (.int .i64 k) es.toList 0 = some none ∧ ∀ (i : Nat) (e : MapEntry), es[i]? = some e → e.key ≠ .int .i64 k) ∨ ∃ (j : Nat) (e : MapEntry), Instr.findNow (.int .i64) (.int .i64 k) es.toList 0 = some (some (j, .int .i64 (f k))) ∧ es[j]? = some e ∧ e.key = .int .i64 k := by
  have hks : ∀ x ∈ es.toList, MapKept.IsKey (.int .i64) x.key := fun x hx => by
    obtain ⟨i, hi, rfl⟩ := List.mem_iff_getElem.1 hx
    obtain ⟨k, v, h1, _⟩ := hA i es.toList[i] (by rw [← Array.getElem?_toList]; simp)
    rw [h1]; simp [MapKept.IsKey]
  rcases MapKept.findNow_spec (d := .int .i64) (k := .int .i64 k) (by simp [MapKept.IsKey]) es.toList 0 hks with ⟨h1, h2⟩ | ⟨j, e, h1, h2, h3⟩
  · refine .inl ⟨h1, fun i e he => h2 e ?_⟩
    rw [← Array.getElem?_toList] at he
    exact List.mem_of_getElem? he
  · rw [Array.getElem?_toList] at h2
    obtain ⟨k', v, g1, g2, g3⟩ := hA j e h2
    rw [h3] at g1
    cases g1
    refine .inr ⟨j, e, ?_, h2, h3⟩
    rw [h1, g2, g3, Nat.zero_add]
theorem lookI_ok {P : Program} {w : World} {mty kt et : TypeId} {r : Nat} {f : Int → Int} (k : Int) (hm : P.underlying mty = some (.map kt et)) (hk : P.underlying kt = some (.int .i64)) (hz : (P.info? et).map (·.zero) = some (some (.int .i64 0))) (h : MapI w r f) :
    (Instr.lookup mty (.map (some r)) (.int .i64 k) false).run P w = .ok (.int .i64 (f k)) w := by
  obtain ⟨es, clock, hb, hA, hB, hC⟩ := h
  have hc : ∀ b, (Instr.checkKey b 10000 kt (.int .i64 k)).run P w = .ok () w := fun b => MapKept.run_checkKey (k := .int .i64 k) hk (by simp [MapKept.IsKey]) b 9999
  obtain ⟨i, hi, hiz⟩ : ∃ i, P.info? et = some i ∧ i.zero = some (.int .i64 0) := by
    cases he : P.info? et with
    | none => rw [he] at hz; cases hz
    | some i => rw [he] at hz; exact ⟨i, rfl, by simpa using hz⟩
  rcases mapI_find hA k with ⟨h1, h2⟩ | ⟨j, e, h1, h2, h3⟩
  · rw [hB k h2]
    simp [Instr.lookup, run_underlying hm, MapKept.run_getObj_map hb, hc, MapKept.run_findKey hk h1, Result.andThen, zeroValue, run_typeInfo' hi, hiz]
  · simp [Instr.lookup, run_underlying hm, MapKept.run_getObj_map hb, hc, MapKept.run_findKey hk h1, Result.andThen]
theorem updI_ok {P : Program} {w : World} {mty kt et : TypeId} {r : Nat} {f : Int → Int} {k v : Int} {K : World → Prop} (hm : P.underlying mty = some (.map kt et)) (hk : P.underlying kt = some (.int .i64)) (h : MapI w r f)
    (hK : ∀ w', MapI w' r (fun x => if x = k then v else f x) → Ch [some r] w w' → w'.heap.size = w.heap.size → K w') : opU P (Instr.mapUpdate mty (.map (some r)) (.int .i64 k) (.int .i64 v)) w K := by
  obtain ⟨es, clock, hb, hA, hB, hC⟩ := h
  have hc : ∀ b, (Instr.checkKey b 10000 kt (.int .i64 k)).run P w = .ok () w := fun b => MapKept.run_checkKey (k := .int .i64 k) hk (by simp [MapKept.IsKey]) b 9999
  have hlt : r < w.heap.size := (Array.getElem?_eq_some_iff.1 hb).1
  have hch : ∀ o, Ch [some r] w { w with heap := w.heap.setIfInBounds r o } := fun o => ⟨rfl, rfl, rfl, by simp, fun q hq hn => by
    simp only []
    rw [Array.getElem?_setIfInBounds_ne]
    intro he; subst he
    exact hn rfl⟩
  rcases mapI_find hA k with ⟨h1, h2⟩ | ⟨j, e, h1, h2, h3⟩
  · refine ⟨{ w with heap := w.heap.setIfInBounds r (.map (es.push { key := .int .i64 k, val := .int .i64 v, born := clock }) (clock + 1)) }, ?_, hK _ ⟨es.push { key := .int .i64 k, val := .int .i64 v, born := clock }, clock + 1, by simp [hlt], fun i e he => ?_, fun q hq => ?_, fun i j e e' he he' hkk => ?_⟩ (hch _) (by simp)⟩
    · simp [Instr.mapUpdate, run_underlying hm, MapKept.run_getObj_map hb, hc, MapKept.run_findKey hk h1, MapKept.run_setObj_map _ hb, Result.andThen]
    · rw [Array.getElem?_push] at he
      split at he
      · cases he
        exact ⟨k, v, rfl, rfl, if_pos rfl⟩
      · obtain ⟨k', v', g1, g2, g3⟩ := hA i e he
        refine ⟨k', v', g1, g2, ?_⟩
        have : k' ≠ k := fun hk' => h2 i e he (by rw [g1, hk'])
        simp only []
        rw [if_neg this]; exact g3
    · have hqk : q ≠ k := fun hqk => by
        refine hq es.size { key := .int .i64 k, val := .int .i64 v, born := clock } (by simp) ?_
        rw [hqk]
      simp only []
      rw [if_neg hqk]
      refine hB q fun i e he => hq i e ?_
      rw [Array.getElem?_push, if_neg (by have := (Array.getElem?_eq_some_iff.1 he).1; omega)]; exact he
    · rw [Array.getElem?_push] at he he'
      split at he <;> split at he'
      · omega
      · cases he; exact absurd hkk.symm (h2 j e' he')
      · cases he'; exact absurd hkk (h2 i e he)
      · exact hC i j e e' he he' hkk
  · have hmod : ∀ (i : Nat) (e' : MapEntry), (es.modify j fun e => { e with key := .int .i64 k, val := .int .i64 v })[i]? = some e' → (i = j ∧ e'.key = .int .i64 k ∧ e'.val = .int .i64 v) ∨ (i ≠ j ∧ es[i]? = some e') := fun i e' he' => by
      rw [Array.getElem?_modify] at he'
      split at he'
      · rename_i hij
        subst hij
        rw [h2] at he'
        cases he'
        exact .inl ⟨rfl, rfl, rfl⟩
      · rename_i hij
        exact .inr ⟨fun hh => hij hh.symm, he'⟩
    refine ⟨{ w with heap := w.heap.setIfInBounds r (.map (es.modify j fun e => { e with key := .int .i64 k, val := .int .i64 v }) clock) }, ?_, hK _ ⟨es.modify j fun e => { e with key := .int .i64 k, val := .int .i64 v }, clock, by simp [hlt], fun i e' he => ?_, fun q hq => ?_, fun i i' e1 e2 he he' hkk => ?_⟩ (hch _) (by simp)⟩
    · have hkk := MapKept.run_keyThatStays (P := P) (w := w) (d := .int .i64) (k := .int .i64 k) (by simp [MapKept.IsKey])
      simp [Instr.mapUpdate, run_underlying hm, MapKept.run_getObj_map hb, hc, MapKept.run_findKey hk h1, MapKept.run_setObj_map _ hb, Result.andThen, h2, h3, hkk]
    · rcases hmod i e' he with ⟨_, g1, g2⟩ | ⟨hij, g⟩
      · exact ⟨k, v, g1, g2, if_pos rfl⟩
      · obtain ⟨k', v', g1, g2, g3⟩ := hA i e' g
        refine ⟨k', v', g1, g2, ?_⟩
        have : k' ≠ k := fun hk' => hij (hC i j e' e g h2 (by rw [g1, h3, hk']))
        simp only []
        rw [if_neg this]; exact g3
    · have hqk : q ≠ k := fun hqk => by
        refine hq j { e with key := .int .i64 k, val := .int .i64 v } (by rw [Array.getElem?_modify, if_pos rfl, h2]; rfl) ?_
        rw [hqk]
      simp only []
      rw [if_neg hqk]
      refine hB q fun i e' he => ?_
      by_cases hij : i = j
      · subst hij
        rw [h2] at he; cases he
        rw [h3]; intro hh; cases hh; exact hqk rfl
      · exact hq i e' (by rw [Array.getElem?_modify, if_neg (fun hh => hij hh.symm)]; exact he)
    · rcases hmod i e1 he with ⟨g0, g1, _⟩ | ⟨g0, g1⟩ <;> rcases hmod i' e2 he' with ⟨g0', g1', _⟩ | ⟨g0', g1'⟩
      · omega
      · exact absurd (hC i' j e2 e g1' h2 (by rw [← hkk, g1, h3])) g0'
      · exact absurd (hC i j e1 e g1 h2 (by rw [hkk, g1', h3])) g0
      · exact hC i i' e1 e2 g1 g1' hkk
theorem newMapI {P : Program} {w : World} {t : TypeId} {K : Option Nat → World → Prop} (hK : ∀ r w', MapI w' r (fun _ => 0) → Ch [] w w' → w.heap.size ≤ r → K (some r) w') :
    ∃ (r1 : Option Nat), ∃ w2, (Instr.makeMap t none).run P w = .ok (.map r1) w2 ∧ K r1 w2 := by
  refine ⟨some w.heap.size, w.alloc (.map #[] 0), run_makeMap_plain w t, hK _ _ ⟨#[], 0, heap_alloc_new w _, (fun i e he => by simp at he), fun _ _ => rfl, (fun i j e e' he => by simp at he)⟩ (Chg.alloc _ _ _) (Nat.le_refl _)⟩
end Go.Pl
