/- Fr2: cases by what is asked; stores of six cells in a row. -/
import Derived.Test.YthgkehldimldgaaDoorFr
set_option linter.unusedVariables false
set_option linter.unusedSimpArgs false
namespace Go.Pl
open Go Go.Sh Go.RowKit
theorem iteB_dec {p : Prop} [Decidable p] {X Y : Prop} (h1 : p → X) (h2 : ¬ p → Y) : iteB (decide p) X Y := by
  by_cases h : p
  · rw [decide_eq_true h]; exact h1 h
  · rw [decide_eq_false h]; exact h2 h
theorem iteB_ndec {p : Prop} [Decidable p] {X Y : Prop} (h1 : ¬ p → X) (h2 : p → Y) : iteB (!decide p) X Y := by
  by_cases h : p
  · rw [decide_eq_true h]; exact h2 h
  · rw [decide_eq_false h]; exact h1 h
theorem iteB_eq {a b : Int} {X Y : Prop} (h1 : a = b → X) (h2 : a ≠ b → Y) : iteB (a == b) X Y := iteB_intro (fun h => h1 (by simpa using h)) (fun h => h2 (by simpa using h))
theorem iteB_ne {a b : Int} {X Y : Prop} (h1 : a ≠ b → X) (h2 : a = b → Y) : iteB (a != b) X Y := iteB_intro (fun h => h1 (by simpa using h)) (fun h => h2 (by simpa using h))
theorem stO {w : World} {b o : Nat} {cur : Array Value} {t : TypeId} {v : Value} {K : World → Prop} (hb : Blk w b cur t) (ho : o < cur.size)
    (h : ∀ w', Ch [some b] w w' → Blk w' b (cur.setIfInBounds o v) t → w'.heap.size = w.heap.size → K w') : stP ⟨b, o, none⟩ v w K :=
  stP_intro hb ho fun w' hc => h w' (Ch.of1 hc)
theorem st6 {w : World} {b o : Nat} {cur : Array Value} {t : TypeId} {v0 v1 v2 v3 v4 v5 : Value} {K : World → Prop} (hb : Blk w b cur t) (ho : o + 6 ≤ cur.size)
    (h : ∀ w' cur', Ch [some b] w w' → Blk w' b cur' t → cur'.size = cur.size → (∀ j, (j < o ∨ o + 6 ≤ j) → cur'[j]? = cur[j]?) → cur'[o]? = some v0 → cur'[o + 1]? = some v1 → cur'[o + 2]? = some v2 → cur'[o + 3]? = some v3 → cur'[o + 4]? = some v4 → cur'[o + 5]? = some v5 → w'.heap.size = w.heap.size → K w') :
    stP ⟨b, o, none⟩ v0 w fun w1 => stP ((⟨b, o, none⟩ : Addr).add 1) v1 w1 fun w2 => stP ((⟨b, o, none⟩ : Addr).add 2) v2 w2 fun w3 => stP ((⟨b, o, none⟩ : Addr).add 3) v3 w3 fun w4 => stP ((⟨b, o, none⟩ : Addr).add 4) v4 w4 fun w5 => stP ((⟨b, o, none⟩ : Addr).add 5) v5 w5 K := by
  refine stO hb (by omega) fun w1 c1 b1 s1 => ?_
  rw [add_mk]
  refine stO b1 (by simp; omega) fun w2 c2 b2 s2 => ?_
  rw [add_mk]
  refine stO b2 (by simp; omega) fun w3 c3 b3 s3 => ?_
  rw [add_mk]
  refine stO b3 (by simp; omega) fun w4 c4 b4 s4 => ?_
  rw [add_mk]
  refine stO b4 (by simp; omega) fun w5 c5 b5 s5 => ?_
  rw [add_mk]
  refine stO b5 (by simp; omega) fun w6 c6 b6 s6 => ?_
  refine h w6 _ (((((c1.tr c2).tr c3).tr c4).tr c5).tr c6) b6 (by simp) (fun j hj => ?_) ?_ ?_ ?_ ?_ ?_ ?_ (by omega)
  · rw [Array.getElem?_setIfInBounds_ne (by omega), Array.getElem?_setIfInBounds_ne (by omega), Array.getElem?_setIfInBounds_ne (by omega), Array.getElem?_setIfInBounds_ne (by omega), Array.getElem?_setIfInBounds_ne (by omega), Array.getElem?_setIfInBounds_ne (by omega)]
  · rw [Array.getElem?_setIfInBounds_ne (by omega), Array.getElem?_setIfInBounds_ne (by omega), Array.getElem?_setIfInBounds_ne (by omega), Array.getElem?_setIfInBounds_ne (by omega), Array.getElem?_setIfInBounds_ne (by omega), Array.getElem?_setIfInBounds_self_of_lt (by omega)]
  · rw [Array.getElem?_setIfInBounds_ne (by omega), Array.getElem?_setIfInBounds_ne (by omega), Array.getElem?_setIfInBounds_ne (by omega), Array.getElem?_setIfInBounds_ne (by omega), Array.getElem?_setIfInBounds_self_of_lt (by simp; omega)]
  · rw [Array.getElem?_setIfInBounds_ne (by omega), Array.getElem?_setIfInBounds_ne (by omega), Array.getElem?_setIfInBounds_ne (by omega), Array.getElem?_setIfInBounds_self_of_lt (by simp; omega)]
  · rw [Array.getElem?_setIfInBounds_ne (by omega), Array.getElem?_setIfInBounds_ne (by omega), Array.getElem?_setIfInBounds_self_of_lt (by simp; omega)]
  · rw [Array.getElem?_setIfInBounds_ne (by omega), Array.getElem?_setIfInBounds_self_of_lt (by simp; omega)]
  · rw [Array.getElem?_setIfInBounds_self_of_lt (by simp; omega)]
end Go.Pl
