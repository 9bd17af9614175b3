/- Fr: what stays as it was, so that 'grind' finds it: worlds that differ in few blocks only. -/
import Derived.Test.YthgkehldimldgaaDoorPl
set_option linter.unusedVariables false
set_option linter.unusedSimpArgs false
namespace Go.Pl
open Go Go.Sh Go.RowKit
def inL : List (Option Nat) → Nat → Prop
  | [], _ => False
  | [o], k => some k = o
  | o :: p :: l, k => some k = o ∨ inL (p :: l) k
@[grind =] theorem inL_nil (k : Nat) : inL [] k = False := rfl
@[grind =] theorem inL_one (o : Option Nat) (k : Nat) : inL [o] k = (some k = o) := rfl
@[grind =] theorem inL_two (o p : Option Nat) (k : Nat) : inL [o, p] k = (some k = o ∨ some k = p) := rfl
@[grind =] theorem inL_three (o p q : Option Nat) (k : Nat) : inL [o, p, q] k = (some k = o ∨ some k = p ∨ some k = q) := rfl
/-- Of the old blocks only these may have changed. -/
def Ch (L : List (Option Nat)) (w w' : World) : Prop := Chg (inL L) w w'
/-- It lies in memory that is new since there were n blocks. -/
@[grind =] def Ge (n : Nat) (o : Option Nat) : Prop := ∀ k, o = some k → n ≤ k
/-- It lies in one of the first n blocks. -/
@[grind =] def Lt (n : Nat) (o : Option Nat) : Prop := ∀ k, o = some k → k < n
/-- The two lie in no common block. -/
@[grind =] def Dj (o p : Option Nat) : Prop := ∀ k, o = some k → p = some k → False
theorem Ch.of0 {w w' : World} (h : Chg Nil w w') : Ch [] w w' := h
theorem Ch.to0 {w w' : World} (h : Ch [] w w') : Chg Nil w w' := h
theorem Ch.of1 {b : Nat} {w w' : World} (h : Chg (fun k => k = b) w w') : Ch [some b] w w' := h.mono fun i _ e => by subst e; rfl
theorem Ch.ofO {o : Option Nat} {w w' : World} (h : Chg (fun k => some k = o) w w') : Ch [o] w w' := h
theorem Ch.of2 {b : Nat} {o : Option Nat} {w w' : World} (h : Chg (fun k => k = b ∨ some k = o) w w') : Ch [some b, o] w w' := h.mono fun i _ e => by
  rcases e with e | e
  · subst e; exact .inl rfl
  · exact .inr e
@[grind →] theorem Ch.size {L : List (Option Nat)} {w w' : World} (h : Ch L w w') : w.heap.size ≤ w'.heap.size := Chg.size h
theorem Ch.trans {L M : List (Option Nat)} {a b c : World} (h : Ch L a b) (k : Ch M b c) (hs : ∀ i, i < a.heap.size → inL M i → inL L i) : Ch L a c := Chg.step h k hs
@[grind →] theorem Ch.tr {L : List (Option Nat)} {a b c : World} (h : Ch L a b) (k : Ch L b c) : Ch L a c := Chg.step h k fun _ _ h => h
@[grind →] theorem Ch.tr0 {L : List (Option Nat)} {a b c : World} (h : Ch L a b) (k : Ch [] b c) : Ch L a c := Chg.step h k fun _ _ h => h.elim
@[grind →] theorem Ch.trN {L : List (Option Nat)} {a b c : World} {n : Nat} (h : Ch L a b) (k : Ch [some n] b c) (hn : a.heap.size ≤ n) : Ch L a c := Chg.step h k fun i hi h => by
  have h : some i = some n := h
  cases h; omega
@[grind →] theorem Ch.trO {L : List (Option Nat)} {a b c : World} {o : Option Nat} (h : Ch L a b) (k : Ch [o] b c) (hn : Ge a.heap.size o) : Ch L a c := Chg.step h k fun i hi h => by
  have h : some i = o := h
  have := hn i h.symm
  omega
@[grind →] theorem Ch.tr2 {L : List (Option Nat)} {a b c : World} {n : Nat} {o : Option Nat} (h : Ch L a b) (k : Ch [some n, o] b c) (h1 : a.heap.size ≤ n) (h2 : Ge a.heap.size o) : Ch L a c := Chg.step h k fun i hi h => by
  rcases (show some i = some n ∨ some i = o from h) with h | h
  · cases h; omega
  · have := h2 i h.symm
    omega
theorem Ch.tr' {M : List (Option Nat)} {a b c : World} (h : Ch [] a b) (k : Ch M b c) : Ch M a c := ⟨k.os.trans h.os, k.tape.trans h.tape, k.output.trans h.output, Nat.le_trans h.size k.size, fun i hi hn => by
    rw [k.blk i (Nat.lt_of_lt_of_le hi h.size) hn]; exact h.blk i hi (fun h => h)⟩
theorem Ch.refl (L : List (Option Nat)) (w : World) : Ch L w w := Chg.refl _ _
theorem Ch.drew (w : World) : Ch [] w w.drew := Chg.drew _ _
theorem Ch.mono {L M : List (Option Nat)} {a b : World} (h : Ch L a b) (hs : ∀ i, i < a.heap.size → inL L i → inL M i) : Ch M a b := Chg.mono h hs
@[grind →] theorem Blk.below {w : World} {b : Nat} {cur : Array Value} {t : TypeId} (h : Blk w b cur t) : b < w.heap.size := h.lt
@[grind →] theorem Blk.ch {L : List (Option Nat)} {w w' : World} {b : Nat} {cur : Array Value} {t : TypeId} (h : Blk w b cur t) (hc : Ch L w w') (hn : ¬ inL L b) : Blk w' b cur t := h.chg hc hn
@[grind →] theorem Rd.ch {L : List (Option Nat)} {w w' : World} {s : Slc} {vs : List Value} (h : Rd w s vs) (hc : Ch L w w') (hn : ∀ b, blkOf s = some b → ¬ inL L b) : Rd w' s vs := h.chg hc hn
@[grind →] theorem Own.ch {L : List (Option Nat)} {w w' : World} {e : TypeId} {size : Nat} {s : Slc} {vs : List Value} (h : Own w e size s vs) (hc : Ch L w w') (hn : ∀ b, blkOf s = some b → ¬ inL L b) : Own w' e size s vs := h.chg hc hn
@[grind →] theorem Blk.ch0 {w w' : World} {b : Nat} {cur : Array Value} {t : TypeId} (h : Blk w b cur t) (hc : Ch [] w w') : Blk w' b cur t := h.chg hc fun h => h
@[grind →] theorem Rd.ch0 {w w' : World} {s : Slc} {vs : List Value} (h : Rd w s vs) (hc : Ch [] w w') : Rd w' s vs := h.chg hc fun _ _ h => h
@[grind →] theorem Own.ch0 {w w' : World} {e : TypeId} {size : Nat} {s : Slc} {vs : List Value} (h : Own w e size s vs) (hc : Ch [] w w') : Own w' e size s vs := h.chg hc fun _ _ h => h
@[grind →] theorem Own.ltS {w : World} {e : TypeId} {size : Nat} {s : Slc} {vs : List Value} (h : Own w e size s vs) : Lt w.heap.size (blkOf s) := h.lt
@[grind =] theorem blkOf_mk (b o l c : Nat) : blkOf ⟨some ⟨b, o, none⟩, l, c⟩ = some b := rfl
@[grind =] theorem blkOf_none (l c : Nat) : blkOf ⟨none, l, c⟩ = none := rfl
theorem Blk.to {w w' : World} {b : Nat} {cur : Array Value} {t : TypeId} (h : Blk w b cur t) (k : Blk w' b cur t) : Blk w' b cur t := k
theorem Rd.to {w w' : World} {s : Slc} {vs : List Value} (h : Rd w s vs) (k : Rd w' s vs) : Rd w' s vs := k
theorem Own.to {w w' : World} {e : TypeId} {size : Nat} {s : Slc} {vs : List Value} (h : Own w e size s vs) (k : Own w' e size s vs) : Own w' e size s vs := k
/-- A load out of a known block. -/
theorem ldI_b {k : IntKind} {w : World} {b o : Nat} {cur : Array Value} {t : TypeId} {K : Int → Prop} {n : Int} (h : Blk w b cur t) (hv : cur[o]? = some (.int k n)) (hK : K n) : ldI k ((⟨b, 0, none⟩ : Addr).add o) w K := ⟨n, by rw [add_mk, Nat.zero_add, h.cell]; exact hv, hK⟩
theorem ldS_b {w : World} {b o : Nat} {cur : Array Value} {t : TypeId} {K : Slc → Prop} {s : Slc} (h : Blk w b cur t) (hv : cur[o]? = some (.slice s.a s.l s.c)) (hK : K s) : ldS ((⟨b, 0, none⟩ : Addr).add o) w K := ⟨s, by rw [add_mk, Nat.zero_add, h.cell]; exact hv, hK⟩
theorem ldStr_b {w : World} {b o : Nat} {cur : Array Value} {t : TypeId} {K : ByteArray → Prop} {s : ByteArray} (h : Blk w b cur t) (hv : cur[o]? = some (.string s)) (hK : K s) : ldStr ((⟨b, 0, none⟩ : Addr).add o) w K := ⟨s, by rw [add_mk, Nat.zero_add, h.cell]; exact hv, hK⟩
theorem ldP_b {w : World} {b o : Nat} {cur : Array Value} {t : TypeId} {K : Option Addr → Prop} {s : Option Addr} (h : Blk w b cur t) (hv : cur[o]? = some (.pointer s)) (hK : K s) : ldP ((⟨b, 0, none⟩ : Addr).add o) w K := ⟨s, by rw [add_mk, Nat.zero_add, h.cell]; exact hv, hK⟩
theorem ldB_b {w : World} {b o : Nat} {cur : Array Value} {t : TypeId} {K : Bool → Prop} {s : Bool} (h : Blk w b cur t) (hv : cur[o]? = some (.bool s)) (hK : K s) : ldB ((⟨b, 0, none⟩ : Addr).add o) w K := ⟨s, by rw [add_mk, Nat.zero_add, h.cell]; exact hv, hK⟩
theorem newB {cells : Array Value} {t : TypeId} {w : World} {K : Addr → World → Prop} (h : ∀ b w', Ch [] w w' → Blk w' b cells t → b = w.heap.size → w'.heap.size = w.heap.size + 1 → K ⟨b, 0, none⟩ w') : newP cells t w K :=
  newP_intro fun w' hc hb hs => h _ w' hc hb rfl hs
theorem stB {w : World} {b o : Nat} {cur : Array Value} {t : TypeId} {v : Value} {K : World → Prop} (hb : Blk w b cur t) (ho : o < cur.size)
    (h : ∀ w', Ch [some b] w w' → Blk w' b (cur.setIfInBounds o v) t → w'.heap.size = w.heap.size → K w') : stP ((⟨b, 0, none⟩ : Addr).add o) v w K := by
  rw [add_mk, Nat.zero_add]
  exact stP_intro hb ho fun w' hc => h w' (Ch.of1 hc)
/-- A slice's new block is the old one or a new one. -/
@[grind =] def Fm (n : Nat) (o o' : Option Nat) : Prop := ∀ k, o' = some k → o = some k ∨ n ≤ k
@[grind →] theorem Gr.ch {s s' : Slc} {w w' : World} (h : Gr s w s' w') : Ch [blkOf s] w w' ∧ Fm w.heap.size (blkOf s) (blkOf s') := ⟨h.chg, h.blk⟩
theorem Own.none0 {w : World} {e : TypeId} {size : Nat} {s : Slc} {vs : List Value} (h : Own w e size s vs) (ha : s.a = none) : s.l = 0 ∧ s.c = 0 := by
  rcases h.2 with ⟨hs, hn⟩ | ⟨g, cap, cur, hs, _⟩
  · injection hs with h1 h2 h3
    exact ⟨h2, h3⟩
  · injection hs with h1 h2 h3
    rw [ha] at h1; cases h1
/-- Append of one element that was just laid. -/
theorem apB {P : Program} {t e ty : TypeId} {z : Value} {size bytes : Nat} (T : ElT P t e z size bytes) {cells : Array Value} {w : World} {s : Slc} {vs : List Value} {K : Slc → World → Prop} (hcs : cells.size = size) (h1 : ∀ u ∈ cells.toList, u.oneCell' = true)
    (hs : Own w e size s vs) (hb : (s.l + 1) * bytes ≤ 140737488355328) (hm : s.l + 1 ≤ 140737488355328)
    (hK : ∀ s' w', Own w' e size s' (vs ++ cells.toList) → s'.l = s.l + 1 → Gr s w s' w' → K s' w') :
    newP cells e w fun a w1 => apP P #[t, t] ty [.slice s.a s.l s.c, .slice (some a) 1 1] w1 K := by
  refine newB fun k w1 hc1 hb1 hk hs1 => ?_
  have ho1 : Own w1 e size s vs := hs.ch hc1 (by grind)
  refine apP_own T (s := s) (x := ⟨some ⟨k, 0, none⟩, 1, 1⟩) (news := cells.toList) ho1 (fun h => by cases h) (by simp [hcs]) (fun ad had j u hu => ?_) h1 hb hm fun s' w2 ho hl hc hblk hsz hnil => ?_
  · cases had
    rw [add_mk, Nat.zero_add, hb1.cell]; simpa using hu
  · refine hK s' w2 ho hl ⟨Ch.tr' hc1 (Ch.ofO hc), ?_⟩
    intro j hj
    rcases hblk with h | h
    · exact .inl (h ▸ hj)
    · rw [h] at hj; simp at hj; right; omega
/-- Append of what a slice reads as. -/
theorem apO {P : Program} {t e ty : TypeId} {z : Value} {bytes : Nat} (T : ElT P t e z 1 bytes) {w : World} {s x : Slc} {vs news : List Value} {K : Slc → World → Prop}
    (hs : Own w e 1 s vs) (hx : Rd w x news) (hxn : x.a = none → x.l = 0 ∧ x.c = 0) (h1 : ∀ u ∈ news, u.oneCell' = true) (hb : (s.l + x.l) * bytes ≤ 140737488355328) (hm : s.l + x.l ≤ 140737488355328)
    (hK : ∀ s' w', Own w' e 1 s' (vs ++ news) → s'.l = s.l + x.l → Gr s w s' w' → K s' w') :
    apP P #[t, t] ty [.slice s.a s.l s.c, .slice x.a x.l x.c] w K := by
  have e1 := hs.rd.len
  have e2 := hx.len
  exact apP_rd T hs hx hxn h1 (by rw [← e1, ← e2]; exact hb) (by rw [← e1, ← e2]; exact hm) fun s' w' h2 h3 h4 _ => hK s' w' h2 (by omega) h4
@[grind →] theorem Gr.tr {s s1 s2 : Slc} {w w1 w2 : World} (h : Gr s w s1 w1) (k : Gr s1 w1 s2 w2) : Gr s w s2 w2 := h.trans k
@[grind →] theorem Gr.thenC {s s' : Slc} {w w1 w2 : World} (h : Gr s w s' w1) (k : Ch [] w1 w2) : Gr s w s' w2 := h.then k
@[grind →] theorem Gr.afterC {s s' : Slc} {w w1 w2 : World} (h : Ch [] w w1) (k : Gr s w1 s' w2) : Gr s w s' w2 := Gr.after h k
theorem U8_own {w : World} {e : TypeId} {s : Slc} {bs : List UInt8} (h : Own w e 1 s (U8 bs)) : s.l = bs.length := by have := h.rd.len; simpa using this
end Go.Pl
