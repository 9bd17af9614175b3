/- Pl: plain lemmas on the formulas of Sh: loops, memory by blocks, what a slice reads as, append and make upon rows of one's own. -/
import Derived.Test.YthgkehldimldgaaDoorSh
import Derived.Maps.AppendAt
import Derived.OwnWalk
import Derived.Below
import Derived.Laws.MakeOwn
import Derived.Laws.IdiomCopy
set_option linter.unusedVariables false
set_option linter.unusedSimpArgs false
namespace Go.Pl
open Go Go.Sh Go.RowKit

/-! ### Loops and cases -/
theorem itN_inv {σ : Type} {body : σ → (σ → World → Prop) → World → Prop} (I : σ → World → Prop) (μ : σ → World → Nat)
    (hb : ∀ s w (next : σ → World → Prop), I s w → (∀ s' w', I s' w' → μ s' w' < μ s w → next s' w') → body s next w) : ∀ n s w, μ s w < n → I s w → itN body n s w := by
  intro n
  induction n with
  | zero => intro s w h; omega
  | succ n ih =>
    intro s w hn hI
    exact hb s w _ hI fun s' w' hI' hlt => ih s' w' (by omega) hI'
theorem loopP_inv {σ : Type} {body : σ → (σ → World → Prop) → World → Prop} {s : σ} {w : World} (I : σ → World → Prop) (μ : σ → World → Nat) (h0 : I s w)
    (hb : ∀ s w (next : σ → World → Prop), I s w → (∀ s' w', I s' w' → μ s' w' < μ s w → next s' w') → body s next w) : loopP body s w :=
  ⟨μ s w + 1, itN_inv I μ hb _ s w (by omega) h0⟩
theorem joinP_intro {σ : Type} {X : (σ → World → Prop) → Prop} {Y : σ → World → Prop} (h : X Y) : joinP X Y := ⟨Y, fun _ _ h => h, h⟩
theorem iteB_intro {b : Bool} {X Y : Prop} (h1 : b = true → X) (h2 : b = false → Y) : iteB b X Y := by cases b <;> simp_all [iteB]
@[simp] theorem iteB_true (X Y : Prop) : iteB true X Y = X := rfl
@[simp] theorem iteB_false (X Y : Prop) : iteB false X Y = Y := rfl
theorem iteB_pos {b : Bool} {X Y : Prop} (hb : b = true) (h : X) : iteB b X Y := by subst hb; exact h
theorem iteB_neg {b : Bool} {X Y : Prop} (hb : b = false) (h : Y) : iteB b X Y := by subst hb; exact h
@[simp] theorem nnP_some (a : Addr) (K : Addr → Prop) : nnP (some a) K = K a := by simp [nnP]
theorem idxP_intro {a : Option Addr} {l : Nat} {i : Int} {sz : Nat} {K : Addr → Prop} {ad : Addr} (h0 : 0 ≤ i) (h1 : i < (l : Int)) (ha : a = some ad) (h : K (ad.add (i.toNat * sz))) : idxP a l i sz K := ⟨h0, h1, ad, ha, h⟩
theorem wrap_u8 {x : Int} (h : 0 ≤ x ∧ x ≤ 255) : IntKind.u8.wrap x = x := by simp [IntKind.wrap, IntKind.signed, IntKind.bits]; omega
theorem wrap_u32 {x : Int} (h : 0 ≤ x ∧ x ≤ 4294967295) : IntKind.u32.wrap x = x := by simp [IntKind.wrap, IntKind.signed, IntKind.bits]; omega
theorem wrap_u64 {x : Int} (h : 0 ≤ x ∧ x ≤ 18446744073709551615) : IntKind.u64.wrap x = x := by simp [IntKind.wrap, IntKind.signed, IntKind.bits]; omega
theorem wrap_i64 {x : Int} (h : -9223372036854775808 ≤ x ∧ x ≤ 9223372036854775807) : IntKind.i64.wrap x = x := by simp [IntKind.wrap, IntKind.signed, IntKind.bits]; omega

/-! ### Worlds -/
/-- Only these of the old blocks may have changed. -/
structure Chg (S : Nat → Prop) (w w' : World) : Prop where
  os : w'.os = w.os
  tape : w'.tape = w.tape
  output : w'.output = w.output
  size : w.heap.size ≤ w'.heap.size
  blk : ∀ k, k < w.heap.size → ¬ S k → w'.heap[k]? = w.heap[k]?
abbrev Nil : Nat → Prop := fun _ => False
theorem Chg.refl (S : Nat → Prop) (w : World) : Chg S w w := ⟨rfl, rfl, rfl, Nat.le_refl _, fun _ _ _ => rfl⟩
theorem Chg.trans {S T : Nat → Prop} {a b c : World} (h : Chg S a b) (k : Chg T b c) : Chg (fun i => S i ∨ T i) a c :=
  ⟨k.os.trans h.os, k.tape.trans h.tape, k.output.trans h.output, Nat.le_trans h.size k.size, fun i hi hn => by
    rw [k.blk i (Nat.lt_of_lt_of_le hi h.size) (fun hT => hn (.inr hT))]
    exact h.blk i hi (fun hS => hn (.inl hS))⟩
theorem Chg.mono {S T : Nat → Prop} {a b : World} (h : Chg S a b) (hs : ∀ i, i < a.heap.size → S i → T i) : Chg T a b :=
  ⟨h.os, h.tape, h.output, h.size, fun i hi hn => h.blk i hi fun hS => hn (hs i hi hS)⟩
/-- Two steps, each of which changes old blocks of S alone (or blocks that are new since the first world). -/
theorem Chg.step {S T : Nat → Prop} {a b c : World} (h : Chg S a b) (k : Chg T b c) (hs : ∀ i, i < a.heap.size → T i → S i) : Chg S a c :=
  (h.trans k).mono fun i hi h => h.elim id (hs i hi)
theorem Chg.drew (S : Nat → Prop) (w : World) : Chg S w w.drew := ⟨rfl, rfl, rfl, Nat.le_refl _, fun _ _ _ => rfl⟩
theorem Chg.alloc (S : Nat → Prop) (w : World) (o : Obj) : Chg S w (w.alloc o) := ⟨rfl, rfl, rfl, by show w.heap.size ≤ (w.heap.push o).size; simp, fun k hk _ => by show (w.heap.push o)[k]? = _; rw [Array.getElem?_push, if_neg (by omega)]⟩
theorem Chg.setCell (w : World) (a : Addr) (v : Value) : Chg (fun k => k = a.block) w (w.setCell a v) :=
  ⟨rfl, rfl, rfl, by simp [World.setCell], fun k hk hn => Below.heap_setCell w a v k hn⟩
theorem Chg.grown {w w' : World} {r : Option Nat} (h : w.grownBy w' r) : Chg (fun k => some k = r) w w' := ⟨h.os, h.tape, h.output, h.size, fun k hk hn => h.block k hk hn⟩
theorem Chg.below {S : Nat → Prop} {B : Nat} {w w' : World} (h : Chg S w w') (hB : B ≤ w.heap.size) (hS : ∀ k, S k → B ≤ k) : Below B w w' :=
  ⟨h.os, h.tape, h.output, h.size, fun k hk => h.blk k (by omega) fun hs => by have := hS k hs; omega⟩
/-- Nothing but draws. -/
structure Drw (w w' : World) : Prop where
  os : w'.os = w.os
  tape : w'.tape = w.tape
  output : w'.output = w.output
  heap : w'.heap = w.heap
theorem Drw.refl (w : World) : Drw w w := ⟨rfl, rfl, rfl, rfl⟩
theorem Drw.trans {a b c : World} (h : Drw a b) (k : Drw b c) : Drw a c := ⟨k.os.trans h.os, k.tape.trans h.tape, k.output.trans h.output, k.heap.trans h.heap⟩
theorem Drw.drew {a b : World} (h : Drw a b) : Drw a b.drew := ⟨h.os, h.tape, h.output, h.heap⟩
theorem Drw.chg {w w' : World} (h : Drw w w') (S : Nat → Prop) : Chg S w w' := ⟨h.os, h.tape, h.output, by rw [h.heap]; exact Nat.le_refl _, fun k _ _ => by rw [h.heap]⟩
theorem Drw.cell {w w' : World} (h : Drw w w') (a : Addr) : w'.cell? a = w.cell? a := by simp [World.cell?, h.heap]

/-! ### Blocks -/
/-- A block of cells, none of them frozen. -/
def Blk (w : World) (b : Nat) (cur : Array Value) (t : TypeId) : Prop := w.heap[b]? = some (.cells cur t (0, 0))
theorem Blk.lt {w : World} {b : Nat} {cur : Array Value} {t : TypeId} (h : Blk w b cur t) : b < w.heap.size := (Array.getElem?_eq_some_iff.1 h).1
theorem Blk.chg {w w' : World} {b : Nat} {cur : Array Value} {t : TypeId} {S : Nat → Prop} (h : Blk w b cur t) (hc : Chg S w w') (hb : ¬ S b) : Blk w' b cur t := (hc.blk b h.lt hb).trans h
theorem Blk.drw {w w' : World} {b : Nat} {cur : Array Value} {t : TypeId} (h : Blk w b cur t) (hc : Drw w w') : Blk w' b cur t := by unfold Blk; rw [hc.heap]; exact h
theorem Blk.cell {w : World} {b : Nat} {cur : Array Value} {t : TypeId} (h : Blk w b cur t) (o : Nat) : w.cell? ⟨b, o, none⟩ = cur[o]? := by
  have h' : w.heap[b]? = some (.cells cur t (0, 0)) := h
  simp [World.cell?, h']
theorem Blk.frozen {w : World} {b : Nat} {cur : Array Value} {t : TypeId} (h : Blk w b cur t) (o : Nat) : w.frozen? ⟨b, o, none⟩ = false := by
  have h' : w.heap[b]? = some (.cells cur t (0, 0)) := h
  simp [World.frozen?, h']
theorem Blk.new (w : World) (cur : Array Value) (t : TypeId) : Blk (w.alloc (.cells cur t)) w.heap.size cur t := heap_alloc_new w _
theorem Blk.set {w : World} {b : Nat} {cur : Array Value} {t : TypeId} (h : Blk w b cur t) (o : Nat) (v : Value) : Blk (w.setCell ⟨b, o, none⟩ v) b (cur.setIfInBounds o v) t := by
  have h' : w.heap[b]? = some (.cells cur t (0, 0)) := h
  unfold Blk World.setCell
  simp only [Array.getElem?_modify, h', if_true, Option.map_some, Option.isSome_none, Bool.false_eq_true, if_false]
theorem newP_intro {cells : Array Value} {t : TypeId} {w : World} {K : Addr → World → Prop}
    (h : ∀ w', Chg Nil w w' → Blk w' w.heap.size cells t → w'.heap.size = w.heap.size + 1 → K ⟨w.heap.size, 0, none⟩ w') : newP cells t w K :=
  h _ (Chg.alloc _ _ _) (Blk.new _ _ _) (by show (w.heap.push _).size = _; simp)
theorem stP_intro {w : World} {b o : Nat} {cur : Array Value} {t : TypeId} {v : Value} {K : World → Prop} (hb : Blk w b cur t) (ho : o < cur.size)
    (h : ∀ w', Chg (fun k => k = b) w w' → Blk w' b (cur.setIfInBounds o v) t → w'.heap.size = w.heap.size → K w') : stP ⟨b, o, none⟩ v w K :=
  ⟨⟨cur[o], by rw [hb.cell]; simp [ho]⟩, hb.frozen o, h _ (Chg.setCell w ⟨b, o, none⟩ v) (hb.set o v) (by simp [World.setCell])⟩
@[simp] theorem add_zero' (a : Addr) : a.add 0 = a := rfl
@[simp] theorem add_mk (b o k : Nat) : (⟨b, o, none⟩ : Addr).add k = ⟨b, o + k, none⟩ := by
  unfold Addr.add; split <;> simp_all
theorem ldI_of {k : IntKind} {ad : Addr} {w : World} {K : Int → Prop} {n : Int} (h : w.cell? ad = some (.int k n)) (hK : K n) : ldI k ad w K := ⟨n, h, hK⟩
theorem ldS_of {ad : Addr} {w : World} {K : Slc → Prop} {s : Slc} (h : w.cell? ad = some (.slice s.a s.l s.c)) (hK : K s) : ldS ad w K := ⟨s, h, hK⟩
theorem ldP_of {ad : Addr} {w : World} {K : Option Addr → Prop} {p : Option Addr} (h : w.cell? ad = some (.pointer p)) (hK : K p) : ldP ad w K := ⟨p, h, hK⟩
theorem ldB_of {ad : Addr} {w : World} {K : Bool → Prop} {b : Bool} (h : w.cell? ad = some (.bool b)) (hK : K b) : ldB ad w K := ⟨b, h, hK⟩
theorem ldStr_of {ad : Addr} {w : World} {K : ByteArray → Prop} {b : ByteArray} (h : w.cell? ad = some (.string b)) (hK : K b) : ldStr ad w K := ⟨b, h, hK⟩

/-! ### What a slice of one-cell elements reads as -/
def blkOf (s : Slc) : Option Nat := s.a.map (·.block)
/-- The slice's elements are these values. -/
structure Rd (w : World) (s : Slc) (vs : List Value) : Prop where
  len : s.l = vs.length
  cap : s.l ≤ s.c
  at_ : ∀ i, i < vs.length → ∃ ad, s.a = some ad ∧ w.cell? (ad.add i) = vs[i]?
theorem Rd.idx {w : World} {s : Slc} {vs : List Value} (h : Rd w s vs) {i : Int} {K : Addr → Prop} (h0 : 0 ≤ i) (h1 : i < (vs.length : Int))
    (hK : ∀ ad, w.cell? ad = vs[i.toNat]? → K ad) : idxP s.a s.l i 1 K := by
  obtain ⟨ad, ha, hc⟩ := h.at_ i.toNat (by omega)
  exact ⟨h0, by rw [h.len]; exact h1, ad, ha, by rw [Nat.mul_one]; exact hK _ hc⟩
theorem Rd.drw {w w' : World} {s : Slc} {vs : List Value} (h : Rd w s vs) (hc : Drw w w') : Rd w' s vs :=
  ⟨h.len, h.cap, fun i hi => by obtain ⟨ad, ha, hx⟩ := h.at_ i hi; exact ⟨ad, ha, by rw [hc.cell]; exact hx⟩⟩
theorem cell_chg {w w' : World} {S : Nat → Prop} (hc : Chg S w w') {a : Addr} {v : Value} (h : w.cell? a = some v) (hn : ¬ S a.block) : w'.cell? a = some v := by
  have hlt := World.block_lt_of_cell? w a h
  rw [← h]; simp [World.cell?, hc.blk a.block hlt hn]
theorem add_block (a : Addr) (n : Nat) : (a.add n).block = a.block := by unfold Addr.add; split <;> rfl
theorem Rd.chg {w w' : World} {S : Nat → Prop} {s : Slc} {vs : List Value} (h : Rd w s vs) (hc : Chg S w w') (hn : ∀ b, blkOf s = some b → ¬ S b) : Rd w' s vs :=
  ⟨h.len, h.cap, fun i hi => by
    obtain ⟨ad, ha, hx⟩ := h.at_ i hi
    have hv : vs[i]? = some vs[i] := by simp [hi]
    refine ⟨ad, ha, ?_⟩
    rw [hv] at hx ⊢
    exact cell_chg hc hx (by rw [add_block]; exact hn _ (by simp [blkOf, ha]))⟩
theorem Rd.nil (w : World) (c : Nat) : Rd w ⟨none, 0, c⟩ [] := ⟨rfl, Nat.zero_le _, fun i hi => by simp at hi⟩
theorem Rd.lt {w : World} {s : Slc} {vs : List Value} (h : Rd w s vs) (hne : vs ≠ []) : ∀ b, blkOf s = some b → b < w.heap.size := by
  intro b hb
  have hpos : 0 < vs.length := List.length_pos_iff.2 hne
  obtain ⟨ad, ha, hx⟩ := h.at_ 0 hpos
  have hv : vs[0]? = some vs[0] := by simp [hpos]
  rw [hv] at hx
  have := World.block_lt_of_cell? w _ hx
  rw [add_block] at this
  simp [blkOf, ha] at hb
  omega
/-- A part of a block read as a slice. -/
theorem Blk.rd {w : World} {b : Nat} {cur : Array Value} {t : TypeId} (h : Blk w b cur t) {o l c : Nat} (hl : o + l ≤ cur.size) (hc : l ≤ c) : Rd w ⟨some ⟨b, o, none⟩, l, c⟩ ((cur.toList.drop o).take l) := by
  refine ⟨by simp; omega, hc, fun i hi => ⟨_, rfl, ?_⟩⟩
  simp only [List.length_take, List.length_drop, Array.length_toList] at hi
  rw [add_mk, h.cell]
  rw [List.getElem?_take, if_pos (by omega), List.getElem?_drop]
  simp

/-! ### Rows of one's own -/
/-- An element's type. -/
structure ElT (P : Program) (t e : TypeId) (z : Value) (size bytes : Nat) : Prop where
  und : P.underlying t = some (.slice e)
  info : (P.info? e).map (fun i => (i.zero, i.size, i.bytes)) = some (some z, size, bytes)
  zs : z.cells.size = size
  pos : 0 < size
def Own (w : World) (e : TypeId) (size : Nat) (s : Slc) (vs : List Value) : Prop := w.ownsRow 0 e size (.slice s.a s.l s.c) s.l vs
theorem blkOf_own (s : Slc) : (Value.slice s.a s.l s.c).ownBlock = blkOf s := by
  cases s with
  | mk a l c => cases a <;> rfl
theorem own_slice {w : World} {e : TypeId} {size : Nat} {v : Value} {n : Nat} {xs : List Value} {b : Nat} (h : w.ownsRow b e size v n xs) : ∃ s : Slc, v = .slice s.a s.l s.c ∧ s.l = n := by
  rcases h.2 with ⟨rfl, rfl⟩ | ⟨g, cap, cur, rfl, _⟩
  · exact ⟨⟨none, 0, 0⟩, rfl, rfl⟩
  · exact ⟨⟨_, _, _⟩, rfl, rfl⟩
theorem Own.nil (w : World) (e : TypeId) (size : Nat) : Own w e size ⟨none, 0, 0⟩ [] := ⟨by simp, .inl ⟨rfl, rfl⟩⟩
theorem Own.chg {w w' : World} {S : Nat → Prop} {e : TypeId} {size : Nat} {s : Slc} {vs : List Value} (h : Own w e size s vs) (hc : Chg S w w') (hn : ∀ b, blkOf s = some b → ¬ S b) : Own w' e size s vs := by
  refine ⟨h.1, ?_⟩
  rcases h.2 with hx | ⟨g, cap, cur, hs, hb, hg, hr⟩
  · exact .inl hx
  · refine .inr ⟨g, cap, cur, hs, hb, ?_, hr⟩
    have : blkOf s = some g := by rw [← blkOf_own, hs]; rfl
    rw [hc.blk g (Array.getElem?_eq_some_iff.1 hg).1 (hn g this)]; exact hg
theorem Own.lt {w : World} {e : TypeId} {size : Nat} {s : Slc} {vs : List Value} (h : Own w e size s vs) : ∀ b, blkOf s = some b → b < w.heap.size := fun b hb => (World.ownsRow.lt h b (by rw [blkOf_own]; exact hb)).2
theorem Own.len {w : World} {e : TypeId} {size : Nat} {s : Slc} {vs : List Value} (h : Own w e size s vs) : vs.length = s.l * size := h.1
theorem Own.rd {w : World} {e : TypeId} {s : Slc} {vs : List Value} (h : Own w e 1 s vs) : Rd w s vs := by
  have hl : s.l = vs.length := by rw [h.len, Nat.mul_one]
  rcases h.2 with ⟨hs, hn⟩ | ⟨g, cap, cur, hs, hb, hg, hnc, hcm, hcs, htake⟩
  · injection hs with h1 h2 h3
    exact ⟨hl, by rw [h2, h3]; exact Nat.le_refl _, fun i hi => by rw [← hl, hn] at hi; exact absurd hi (Nat.not_lt_zero i)⟩
  · injection hs with h1 h2 h3
    refine ⟨hl, by rw [h3]; exact hnc, fun i hi => ⟨_, h1, ?_⟩⟩
    rw [add_mk, Nat.zero_add, Blk.cell (cur := cur) (t := e) hg]
    rw [← htake, List.getElem?_take, if_pos (by rw [Nat.mul_one, hl]; exact hi)]
    simp
theorem cells_of_rd {w : World} {s : Slc} {vs : List Value} (h : Rd w s vs) {ad : Addr} (ha : s.a = some ad) : ∀ j u, vs[j]? = some u → w.cell? (ad.add j) = some u := fun j u hu => by
  have hlt : j < vs.length := (List.getElem?_eq_some_iff.1 hu).1
  obtain ⟨ad', ha', hx⟩ := h.at_ j hlt
  rw [ha] at ha'; cases ha'
  rw [hx, hu]

/-- Append to a row of one's own what a slice of cells reads as; the elements have 'size' cells each. -/
theorem apP_own {P : Program} {t e : TypeId} {z : Value} {size bytes : Nat} (T : ElT P t e z size bytes) {ty : TypeId} {w : World} {s x : Slc} {vs news : List Value} {K : Slc → World → Prop}
    (hs : Own w e size s vs) (hx : (x.a = none → x.l = 0 ∧ x.c = 0)) (hnl : news.length = x.l * size) (hn : ∀ ad, x.a = some ad → ∀ j u, news[j]? = some u → w.cell? (ad.add j) = some u)
    (h1 : ∀ u ∈ news, u.oneCell' = true) (hb : (s.l + x.l) * bytes ≤ 140737488355328) (hm : s.l + x.l ≤ 140737488355328)
    (h : ∀ s' w', Own w' e size s' (vs ++ news) → s'.l = s.l + x.l → Chg (fun k => some k = blkOf s) w w' → (blkOf s' = blkOf s ∨ blkOf s' = some w.heap.size) → w.heap.size ≤ w'.heap.size → (s'.a = none → s'.l = 0) → K s' w') :
    apP P #[t, t] ty [.slice s.a s.l s.c, .slice x.a x.l x.c] w K := by
  obtain ⟨i, hi, hz, hsz, hby⟩ := info_parts T.info
  cases hxa : x.a with
  | some ad =>
    obtain ⟨v', w', hrun, hown, hgr, hnil, hat⟩ := run_append_own_at (P := P) w 0 t ty e i z size bytes T.und hi hz hsz hby T.zs T.pos _ s.l vs hs ad x.l x.c news hnl (hn ad hxa) h1 (by unfold maxLen; omega) hb (Nat.zero_le _)
    obtain ⟨s', rfl, hl⟩ := own_slice hown
    refine ⟨s', w', by simpa using hrun, h s' w' (by rw [← hl] at hown; exact hown) hl ?_ (by rw [blkOf_own, blkOf_own] at hat; exact hat) hgr.size ?_⟩
    · exact (Chg.grown hgr).mono fun k _ hk => by rw [blkOf_own] at hk; exact hk
    · intro hnone
      rcases hown.2 with ⟨he, h0⟩ | ⟨g, cap, cur, he, _⟩
      · injection he with _ e2 _
      · injection he with e1 _ _; rw [hnone] at e1; cases e1
  | none =>
    obtain ⟨hl0, hc0⟩ := hx hxa
    have hnews : news = [] := List.eq_nil_of_length_eq_zero (by rw [hnl, hl0, Nat.zero_mul])
    subst hnews
    have hrun := run_append_owned_none (P := P) w 0 t ty e i size T.und hi _ s.l vs hs
    refine ⟨s, w, by simp only [hl0, hc0]; simpa using hrun, h s w (by simpa using hs) (by omega) (Chg.refl _ _) (.inl rfl) (Nat.le_refl _) ?_⟩
    intro hnone
    rcases hs.2 with ⟨he, h0⟩ | ⟨g, cap, cur, he, _⟩
    · exact h0
    · injection he with e1 _ _; rw [hnone] at e1; cases e1
/-- One element of one cell, out of a block that was just laid. -/
theorem apP_one {P : Program} {t e : TypeId} {z : Value} {bytes : Nat} (T : ElT P t e z 1 bytes) {ty : TypeId} {w : World} {s : Slc} {b : Nat} {v : Value} {vs : List Value} {K : Slc → World → Prop}
    (hs : Own w e 1 s vs) (hb : Blk w b #[v] e) (h1 : v.oneCell' = true) (hbd : (s.l + 1) * bytes ≤ 140737488355328) (hm : s.l + 1 ≤ 140737488355328)
    (h : ∀ s' w', Own w' e 1 s' (vs ++ [v]) → s'.l = s.l + 1 → Chg (fun k => some k = blkOf s) w w' → (blkOf s' = blkOf s ∨ blkOf s' = some w.heap.size) → w.heap.size ≤ w'.heap.size → K s' w') :
    apP P #[t, t] ty [.slice s.a s.l s.c, .slice (some ⟨b, 0, none⟩) 1 1] w K :=
  apP_own T (s := s) (x := ⟨some ⟨b, 0, none⟩, 1, 1⟩) (news := [v]) hs (fun h => by cases h) rfl (fun ad had j u hu => by
    cases had
    rw [add_mk, Nat.zero_add, hb.cell]
    cases j with
    | zero => simpa using hu
    | succ j => simp at hu) (by simpa using h1) hbd hm fun s' w' a b c d e' _ => h s' w' a b c d e'
end Go.Pl
namespace Go.Pl
open Go Go.Sh Go.RowKit
/-! ### make, copy -/
theorem mkP_intro {P : Program} {t e : TypeId} {z : Value} {size bytes : Nat} (T : ElT P t e z size bytes) {k k' : IntKind} {n : Nat} {w : World} {K : Slc → World → Prop}
    (hb : bytes * n ≤ 281474976710656) (hn : n ≤ 9223372036854775807)
    (h : ∀ w', Chg Nil w w' → Blk w' w.heap.size (madeCells z.cells (n * size)) e → w'.heap.size = w.heap.size + 1 → K ⟨some ⟨w.heap.size, 0, none⟩, n, n⟩ w') :
    mkP P t (.int k (n : Int)) (.int k' (n : Int)) w K := by
  obtain ⟨i, hi, hz, hsz, hby⟩ := info_parts T.info
  have hb' : (i.bytes : Int) * (n : Int) ≤ 281474976710656 := by
    have h : ((i.bytes * n : Nat) : Int) ≤ 281474976710656 := by rw [hby]; omega
    rwa [Int.natCast_mul] at h
  have hr := run_make (P := P) w t e i z T.und hi hz k k' n n (by omega) (Int.le_refl _) hb' (by omega)
  simp only [Int.toNat_natCast, hsz] at hr
  exact ⟨⟨_, n, n⟩, _, hr, h _ (Chg.alloc _ _ _) (Blk.new _ _ _) (by show (w.heap.push _).size = _; simp)⟩
theorem madeCells_one (z : Value) (n : Nat) : (madeCells #[z] n).toList = List.replicate n z := by
  apply List.ext_getElem
  · simp [madeCells]
  · intro i h1 h2
    simp [madeCells, Nat.mod_one]
theorem setRow_blk {w : World} {b : Nat} {cur : Array Value} {t : TypeId} (h : Blk w b cur t) (cs : Array Value) : Blk (w.setRow b cs) b cs t := setRow_heap w b cur cs t (0, 0) h
theorem Chg.setRow (w : World) (b : Nat) (cs : Array Value) : Chg (fun k => k = b) w (w.setRow b cs) :=
  ⟨rfl, rfl, rfl, by simp [World.setRow], fun k hk hn => setRow_other w b k cs hn⟩
/-- copy into a block, from its cell o on: min(src, dst) elements. -/
theorem cpP_intro {P : Program} {t e : TypeId} {z : Value} {size bytes : Nat} (T : ElT P t e z size bytes) {st ty : TypeId} {w : World} {b o dl dc : Nat} {x : Slc} {cur : Array Value} {cs : List Value} {K : Int → World → Prop}
    (hg : Blk w b cur e) (hx : x.a = none → x.l = 0) (hn : cs.length = Nat.min x.l dl * size) (hsrc : ∀ ad, x.a = some ad → ∀ j v, cs[j]? = some v → w.cell? (ad.add j) = some v)
    (hfit : o + cs.length ≤ cur.size) (h1 : ∀ v ∈ cs, v.oneCell' = true)
    (h : ∀ w', Chg (fun k => k = b) w w' → Blk w' b (cur.toList.take o ++ cs ++ cur.toList.drop (o + cs.length)).toArray e → w'.heap.size = w.heap.size → K (Nat.min x.l dl) w') :
    cpP P #[t, st] ty [.slice (some ⟨b, o, none⟩) dl dc, .slice x.a x.l x.c] w K := by
  obtain ⟨i, hi, hz, hsz, hby⟩ := info_parts T.info
  have hst := run_storeCells_at P b o e cs 0 cur w hg (by simpa using hfit) h1
  simp only [Nat.add_zero] at hst
  refine ⟨(Nat.min x.l dl : Int), _, ?_, h _ (Chg.setRow w b _) (setRow_blk hg _) (by simp [World.setRow])⟩
  cases hxa : x.a with
  | some ad =>
    have hl := run_loadCells_list (P := P) w ad cs (hsrc ad hxa)
    rw [hn] at hl
    simp [Builtin.copy_, run_underlying T.und, Builtin.lenOf, Builtin.firstCells, sizeOf, typeInfo, hi, hsz, hl, hst, goInt]
  | none =>
    have h0 : x.l = 0 := hx hxa
    have hcs : cs = [] := List.eq_nil_of_length_eq_zero (by rw [hn, h0]; simp [Nat.min])
    subst hcs
    simp only [storeCells] at hst
    simp [Builtin.copy_, run_underlying T.und, Builtin.lenOf, Builtin.firstCells, sizeOf, typeInfo, hi, hsz, storeCells, goInt]
    have := setRow_self w b cur e (0, 0) hg
    simpa using this.symm
/-- '[]byte("..")' of a constant: the block is marked as one that a string may share; its cells stay. -/
theorem Chg.freeze (w : World) (a : Addr) (n : Nat) : Chg (fun k => k = a.block) w (w.freeze a n) := by
  unfold World.freeze
  split
  · exact Chg.refl _ _
  · exact ⟨rfl, rfl, rfl, by simp, fun k hk hn => by simp only [Array.getElem?_modify]; rw [if_neg (fun h => hn h.symm)]⟩
theorem freeze_cell (w : World) (a : Addr) (n : Nat) (x : Addr) : (w.freeze a n).cell? x = w.cell? x := by
  unfold World.freeze
  split
  · rfl
  · simp only [World.cell?, Array.getElem?_modify]
    by_cases h : a.block = x.block
    · rw [if_pos h, ← h]
      cases w.heap[a.block]? with
      | none => rfl
      | some o => cases o <;> rfl
    · rw [if_neg h]
theorem convert_const {P : Program} {t e : TypeId} (hu : P.underlying t = some (.slice e)) (he : P.underlying e = some (.int .u8)) {w : World} {b : Nat} {cur : Array Value} (hb : Blk w b cur e) (l c : Nat) :
    (convert t t (.slice (some ⟨b, 0, none⟩) l c)).run P w = .ok (.slice (some ⟨b, 0, none⟩) l c) (w.freeze ⟨b, cur.size, none⟩ 1) := by
  have hb' : w.heap[b]? = some (.cells cur e (0, 0)) := hb
  have hs : w.shape? b = some (e, cur.size) := by simp [World.shape?, hb']
  unfold convert
  simp only [Sem.run_bind, run_underlying' hu, Result.andThen_ok, run_underlying' he, beq_self_eq_true, markStringish, run_shape, hs, run_freeze, Sem.run_pure]
/-! ### Bytes -/
def U8 (bs : List UInt8) : List Value := bs.map fun b => .int .u8 (b.toNat : Int)
@[simp] theorem U8_length (bs : List UInt8) : (U8 bs).length = bs.length := by simp [U8]
@[simp] theorem U8_nil : U8 [] = [] := rfl
theorem U8_append (a b : List UInt8) : U8 (a ++ b) = U8 a ++ U8 b := by simp [U8]
theorem U8_take (a : List UInt8) (n : Nat) : (U8 a).take n = U8 (a.take n) := by simp [U8, List.map_take]
theorem U8_drop (a : List UInt8) (n : Nat) : (U8 a).drop n = U8 (a.drop n) := by simp [U8, List.map_drop]
theorem U8_at (bs : List UInt8) {i : Nat} (h : i < bs.length) : (U8 bs)[i]? = some (.int .u8 (bs[i].toNat : Int)) := by simp [U8, h]
theorem U8_one (bs : List UInt8) : ∀ u ∈ U8 bs, u.oneCell' = true := by
  intro u hu
  obtain ⟨b, _, rfl⟩ := List.mem_map.1 hu
  rfl
theorem u8_inj {a b : UInt8} : ((a.toNat : Int) == (b.toNat : Int)) = decide (a = b) := by
  rw [Bool.eq_iff_iff, beq_iff_eq, decide_eq_true_eq]
  exact ⟨fun h => UInt8.toNat_inj.1 (by omega), fun h => by rw [h]⟩
theorem u8_bne {a b : UInt8} : ((a.toNat : Int) != (b.toNat : Int)) = decide (a ≠ b) := by
  rw [bne, u8_inj]; simp
theorem U8_replicate (n : Nat) (b : UInt8) : U8 (List.replicate n b) = List.replicate n (.int .u8 (b.toNat : Int)) := by simp [U8]
theorem U8_inj {a b : List UInt8} (h : U8 a = U8 b) : a = b := by
  induction a generalizing b with
  | nil => cases b <;> simp [U8] at h ⊢
  | cons x a ih =>
    cases b with
    | nil => simp [U8] at h
    | cons y b =>
      simp only [U8, List.map_cons, List.cons.injEq] at h
      have h1 : (x.toNat : Int) = (y.toNat : Int) := by have := h.1; injection this
      rw [ih h.2, UInt8.toNat_inj.1 (by omega : x.toNat = y.toNat)]
end Go.Pl
namespace Go.Pl
open Go Go.Sh Go.RowKit
/-! ### Parts of what a slice reads as; rows that grow -/
theorem Rd.sl {w : World} {s : Slc} {vs : List Value} (h : Rd w s vs) {lo hi : Option Int} {l u : Nat} {K : Option Addr → Nat → Nat → Prop} (hlo : lo.getD 0 = (l : Int)) (hhi : hi.getD (s.l : Int) = (u : Int)) (hlu : l ≤ u) (hu : u ≤ vs.length)
    (hK : ∀ p, Rd w ⟨p, u - l, s.c - l⟩ ((vs.drop l).take (u - l)) → p.map (·.block) = s.a.map (·.block) → K p (u - l) (s.c - l)) : slP s.a s.l s.c lo hi 1 K := by
  have hc := h.cap
  have hl := h.len
  unfold slP
  rw [hlo, hhi]
  refine ⟨by omega, by omega, by omega, ?_⟩
  simp only [Int.toNat_natCast, Nat.mul_one]
  refine hK _ ⟨by simp; omega, by simp only []; omega, fun i hi => ?_⟩ ?_
  · simp only [List.length_take, List.length_drop] at hi
    obtain ⟨ad, ha, hx⟩ := h.at_ (l + i) (by omega)
    have hne : ¬ s.c = l := by omega
    refine ⟨ad.add l, by simp [hne, ha], ?_⟩
    rw [List.getElem?_take, if_pos (by omega), List.getElem?_drop, ← hx]
    congr 1
    unfold Addr.add
    by_cases h1 : l = 0
    · subst h1; simp
    · by_cases h2 : i = 0
      · subst h2; simp [h1]
      · simp [h1, h2, show l + i ≠ 0 by omega, Nat.add_assoc]
  · split
    · rfl
    · cases s.a <;> simp [add_block]
theorem U8_part (bs : List UInt8) (l n : Nat) : ((U8 bs).drop l).take n = U8 ((bs.drop l).take n) := by rw [U8_drop, U8_take]
/-- s in w has grown to s' in w': of the old blocks only its own may have changed; its new block is its own or a new one. -/
structure Gr (s : Slc) (w : World) (s' : Slc) (w' : World) : Prop where
  chg : Chg (fun k => some k = blkOf s) w w'
  blk : ∀ b, blkOf s' = some b → blkOf s = some b ∨ w.heap.size ≤ b
theorem Gr.refl (s : Slc) (w : World) : Gr s w s w := ⟨Chg.refl _ _, fun b h => .inl h⟩
theorem Gr.trans {s s1 s2 : Slc} {w w1 w2 : World} (h : Gr s w s1 w1) (k : Gr s1 w1 s2 w2) : Gr s w s2 w2 :=
  ⟨h.chg.step k.chg fun i hi he => by
    rcases h.blk i he.symm with h1 | h1
    · exact h1.symm
    · omega,
   fun b hb => by
    rcases k.blk b hb with h1 | h1
    · exact h.blk b h1
    · exact .inr (Nat.le_trans h.chg.size h1)⟩
/-- A step that changes no old block, ahead of growing. -/
theorem Gr.after {s s' : Slc} {w w1 w2 : World} (h : Chg Nil w w1) (k : Gr s w1 s' w2) : Gr s w s' w2 :=
  ⟨(h.mono fun _ _ h => h.elim).step k.chg fun i hi he => he, fun b hb => (k.blk b hb).imp id fun h1 => Nat.le_trans h.size h1⟩
theorem Gr.then {s s' : Slc} {w w1 w2 : World} (h : Gr s w s' w1) (k : Chg Nil w1 w2) : Gr s w s' w2 :=
  ⟨h.chg.step k fun i hi he => he.elim, h.blk⟩
/-- It lies in memory that is new since there were n blocks. -/
def NewS (n : Nat) (s : Slc) : Prop := ∀ b, blkOf s = some b → n ≤ b
theorem NewS.gr {n : Nat} {s s' : Slc} {w w' : World} (h : NewS n s) (g : Gr s w s' w') (hn : n ≤ w.heap.size) : NewS n s' := fun b hb => (g.blk b hb).elim (h b) fun h1 => by omega
theorem Gr.nil {s s' : Slc} {w0 w w' : World} (hc : Chg Nil w0 w) (h : NewS w0.heap.size s) (g : Gr s w s' w') : Chg Nil w0 w' :=
  hc.step g.chg fun i hi he => by have := h i he.symm; omega
theorem Own.new {w : World} {e : TypeId} {b : Nat} {cur : Array Value} (h : Blk w b cur e) (hm : cur.size ≤ maxLen) : Own w e 1 ⟨some ⟨b, 0, none⟩, cur.size, cur.size⟩ cur.toList :=
  ⟨by simp, .inr ⟨b, cur.size, cur, rfl, Nat.zero_le _, h, Nat.le_refl _, hm, by simp, by simp only [Nat.mul_one]; exact List.take_of_length_le (by simp)⟩⟩
/-- Append of what a slice reads as. -/
theorem apP_rd {P : Program} {t e : TypeId} {z : Value} {bytes : Nat} (T : ElT P t e z 1 bytes) {ty : TypeId} {w : World} {s x : Slc} {vs news : List Value} {K : Slc → World → Prop}
    (hs : Own w e 1 s vs) (hx : Rd w x news) (hxn : x.a = none → x.l = 0 ∧ x.c = 0) (h1 : ∀ u ∈ news, u.oneCell' = true) (hb : (vs.length + news.length) * bytes ≤ 140737488355328) (hm : vs.length + news.length ≤ 140737488355328)
    (h : ∀ s' w', Own w' e 1 s' (vs ++ news) → s'.l = vs.length + news.length → Gr s w s' w' → (s'.a = none → s'.l = 0) → K s' w') :
    apP P #[t, t] ty [.slice s.a s.l s.c, .slice x.a x.l x.c] w K := by
  have hl : vs.length = s.l := by rw [hs.len, Nat.mul_one]
  have hxl := hx.len
  refine apP_own T hs hxn (by rw [Nat.mul_one, hxl]) (fun ad ha => cells_of_rd hx ha) h1 (by rw [← hl, hxl]; exact hb) (by rw [← hl, hxl]; exact hm) fun s' w' ho hl' hc hblk hsz hnil => ?_
  refine h s' w' ho (by omega) ⟨hc, fun b hb => ?_⟩ hnil
  rcases hblk with h2 | h2
  · exact .inl (h2 ▸ hb)
  · rw [h2] at hb; simp at hb; exact .inr (by omega)
end Go.Pl
