/- MapS: a map from strings to numbers: what its keys are. -/
import Derived.Test.YthgkehldimldgaaDoorFr
import Derived.WideMake
set_option linter.unusedVariables false
set_option linter.unusedSimpArgs false
namespace Go.Pl
open Go Go.Sh Go.RowKit
/-- A map whose keys are these strings, in the order in which they came in. -/
def MapS (w : World) (r : Nat) (ks : List ByteArray) : Prop := ∃ es clock, w.heap[r]? = some (.map es clock) ∧ es.toList.map (·.key) = ks.map Value.string ∧ ∀ e ∈ es.toList, ∃ v : Int, e.val = .int .i64 v
theorem MapS.ch {L : List (Option Nat)} {w w' : World} {r : Nat} {ks : List ByteArray} (h : MapS w r ks) (hc : Ch L w w') (hn : ¬ inL L r) : MapS w' r ks := by
  obtain ⟨es, clock, h1, h2⟩ := h
  refine ⟨es, clock, ?_, h2⟩
  rw [hc.blk r (Array.getElem?_eq_some_iff.1 h1).1 hn]; exact h1
theorem MapS.ch0 {w w' : World} {r : Nat} {ks : List ByteArray} (h : MapS w r ks) (hc : Ch [] w w') : MapS w' r ks := h.ch hc fun h => h
theorem MapS.lt {w : World} {r : Nat} {ks : List ByteArray} (h : MapS w r ks) : r < w.heap.size := by
  obtain ⟨es, clock, h1, h2⟩ := h
  exact (Array.getElem?_eq_some_iff.1 h1).1
theorem findNow_str (s : ByteArray) : ∀ (l : List MapEntry) (ks : List ByteArray) (i : Nat), l.map (·.key) = ks.map Value.string → (∀ e ∈ l, ∃ v : Int, e.val = .int .i64 v) →
    (s ∉ ks → Instr.findNow .string (.string s) l i = some none) ∧ (s ∈ ks → ∃ (j : Nat) (v : Int), Instr.findNow .string (.string s) l i = some (some (j, .int .i64 v)))
  | [], ks, i, h, hv => by
    cases ks with
    | nil => exact ⟨fun _ => rfl, fun h => by cases h⟩
    | cons k ks => simp at h
  | e :: l, ks, i, h, hv => by
    cases ks with
    | nil => simp at h
    | cons k ks =>
      simp only [List.map_cons, List.cons.injEq] at h
      have ih := findNow_str s l ks (i + 1) h.2 fun e he => hv e (by simp [he])
      by_cases hk : s = k
      · refine ⟨fun hn => absurd (by simp [hk]) hn, fun _ => ?_⟩
        obtain ⟨v, hv⟩ := hv e (by simp)
        refine ⟨i, v, ?_⟩
        unfold Instr.findNow
        rw [h.1, hk, hv]
        have : (k == k) = true := (MapKept.bytes_beq k k).2 rfl
        simp only [Instr.sameNow, this]
      · have e1 : Instr.findNow .string (.string s) (e :: l) i = Instr.findNow .string (.string s) l (i + 1) := by
          conv => lhs; unfold Instr.findNow
          rw [h.1]
          have : (s == k) = false := by
            cases hb : (s == k) with
            | false => rfl
            | true => exact absurd ((MapKept.bytes_beq s k).1 hb) hk
          simp only [Instr.sameNow, this]
        rw [e1]
        exact ⟨fun hn => ih.1 fun h => hn (by simp [h]), fun hm => ih.2 (by simpa [hk] using hm)⟩
theorem lookS_ok {P : Program} {w : World} {mty kt et : TypeId} {r : Nat} {ks : List ByteArray} {s : ByteArray} (hm : P.underlying mty = some (.map kt et)) (hk : P.underlying kt = some .string) (hz : (P.info? et).map (·.zero) = some (some (.int .i64 0))) (h : MapS w r ks) :
    ∃ (v : Int) (ok : Bool), (ok = true ↔ s ∈ ks) ∧ (Instr.lookup mty (.map (some r)) (.string s) true).run P w = .ok (.tuple #[.int .i64 v, .bool ok]) w := by
  obtain ⟨es, clock, hb, hkeys, hvals⟩ := h
  have hc : ∀ b, (Instr.checkKey b 10000 kt (.string s)).run P w = .ok () w := fun b => MapKept.run_checkKey (k := .string s) hk (by simp [MapKept.IsKey]) b 9999
  have hf := findNow_str s es.toList ks 0 hkeys hvals
  obtain ⟨i, hi, hiz⟩ : ∃ i, P.info? et = some i ∧ i.zero = some (.int .i64 0) := by
    cases he : P.info? et with
    | none => rw [he] at hz; cases hz
    | some i => rw [he] at hz; exact ⟨i, rfl, by simpa using hz⟩
  by_cases hs : s ∈ ks
  · obtain ⟨j, v, hj⟩ := hf.2 hs
    refine ⟨v, true, ⟨fun _ => hs, fun _ => rfl⟩, ?_⟩
    simp [Instr.lookup, run_underlying hm, MapKept.run_getObj_map hb, hc, MapKept.run_findKey hk hj, Result.andThen]
  · refine ⟨0, false, ⟨(fun h => by cases h), fun h => absurd h hs⟩, ?_⟩
    simp [Instr.lookup, run_underlying hm, MapKept.run_getObj_map hb, hc, MapKept.run_findKey hk (hf.1 hs), Result.andThen, zeroValue, run_typeInfo' hi, hiz]
theorem upd_ok {P : Program} {w : World} {mty kt et : TypeId} {r : Nat} {ks : List ByteArray} {s : ByteArray} {v : Int} {K : World → Prop} (hm : P.underlying mty = some (.map kt et)) (hk : P.underlying kt = some .string) (h : MapS w r ks) (hs : s ∉ ks)
    (hK : ∀ w', MapS w' r (ks ++ [s]) → Ch [some r] w w' → w'.heap.size = w.heap.size → K w') : opU P (Instr.mapUpdate mty (.map (some r)) (.string s) (.int .i64 v)) w K := by
  obtain ⟨es, clock, hb, hkeys, hvals⟩ := h
  have hc : ∀ b, (Instr.checkKey b 10000 kt (.string s)).run P w = .ok () w := fun b => MapKept.run_checkKey (k := .string s) hk (by simp [MapKept.IsKey]) b 9999
  have hf := (findNow_str s es.toList ks 0 hkeys hvals).1 hs
  have hlt : r < w.heap.size := (Array.getElem?_eq_some_iff.1 hb).1
  refine ⟨{ w with heap := w.heap.setIfInBounds r (.map (es.push { key := .string s, val := .int .i64 v, born := clock }) (clock + 1)) }, ?_, hK _ ⟨es.push { key := .string s, val := .int .i64 v, born := clock }, clock + 1, by simp [hlt], by simp [hkeys], fun e he => ?_⟩ ⟨rfl, rfl, rfl, by simp, fun k hk' hn => ?_⟩ (by simp)⟩
  · simp [Instr.mapUpdate, run_underlying hm, MapKept.run_getObj_map hb, hc, MapKept.run_findKey hk hf, MapKept.run_setObj_map _ hb, Result.andThen]
  · simp at he
    rcases he with he | rfl
    · exact hvals e (by simpa using he)
    · exact ⟨v, rfl⟩
  · simp only []
    rw [Array.getElem?_setIfInBounds_ne]
    intro he; subst he
    exact hn rfl
theorem newMap {P : Program} {w : World} {t : TypeId} {K : Option Nat → World → Prop} (hK : ∀ r w', MapS w' r [] → Ch [] w w' → w.heap.size ≤ r → K (some r) w') :
    ∃ (r1 : Option Nat), ∃ w2, (Instr.makeMap t none).run P w = .ok (.map r1) w2 ∧ K r1 w2 := by
  refine ⟨some w.heap.size, w.alloc (.map #[] 0), run_makeMap_plain w t, hK _ _ ⟨#[], 0, heap_alloc_new w _, rfl, fun e he => by simp at he⟩ (Chg.alloc _ _ _) (Nat.le_refl _)⟩
end Go.Pl
