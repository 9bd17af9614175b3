/- VmM: the machine of vm in memory: its parts; pop, push, read, write, fail; two values joined. -/
import Derived.Test.YtlnhecbgjjglfaaGreatVmP
import Derived.Test.YtlnhecbgjjglfaaGreatPr
import Derived.Test.YtlnhecbgjjglfaaGreatRowI
import Derived.Test.YtlnhecbgjjglfaaGreatFr2
set_option linter.unusedVariables false
set_option linter.unusedSimpArgs false
namespace Go.Pl
open Go Go.Sh Go.RowKit
abbrev slW (s : Slc) : Value := .slice s.a s.l s.c
theorem Own.pre' {w : World} {e : TypeId} {sz : Nat} {s r : Slc} {ws : List Value} (h : Own w e sz s ws) (ha : s.a = r.a) (hc : s.c = r.c) (hl : r.l ≤ s.l) (hn : r.a ≠ none) : Own w e sz r (ws.take (r.l * sz)) := by
  have hlen := h.len
  have hm : r.l * sz ≤ s.l * sz := Nat.mul_le_mul_right _ hl
  refine ⟨by rw [List.length_take]; omega, .inr ?_⟩
  rcases h.2 with ⟨hs, h0⟩ | ⟨g, cap, cur, hs, hb, hg, hnc, hcm, hcs, htake⟩
  · injection hs with e1 e2 e3
    rw [ha] at e1
    exact absurd e1 hn
  · injection hs with e1 e2 e3
    refine ⟨g, cap, cur, by rw [← ha, e1, ← hc, e3], hb, hg, by omega, hcm, hcs, ?_⟩
    rw [← htake, List.take_take, Nat.min_eq_left hm]
theorem Own.st1' {w : World} {e : TypeId} {s : Slc} {vs : List Value} {x : Nat} {x' : Int} {v : Value} {K : World → Prop} (h : Own w e 1 s vs) (hx : x < s.l) (hx' : x' = (x : Int))
    (hK : ∀ w', Own w' e 1 s (vs.set x v) → Ch [blkOf s] w w' → w'.heap.size = w.heap.size → K w') : idxP s.a s.l x' 1 fun a => stP a v w K := by
  subst hx'
  rcases h.2 with ⟨hs, hn⟩ | ⟨g, cap, cur, hs, hb, hg, hnc, hcm, hcs, htake⟩
  · omega
  · have hs' := hs
    injection hs with e1 e2 e3
    refine idxP_intro (by omega) (by omega) e1 ?_
    have hxs : x < cur.size := by rw [hcs]; omega
    rw [Int.toNat_natCast, Nat.mul_one]
    refine stB hg hxs fun w' hc hb' hz => hK w' ⟨by rw [List.length_set]; exact h.1, .inr ⟨g, cap, _, hs', hb, hb', hnc, hcm, by simpa using hcs, ?_⟩⟩ (by simpa [blkOf, e1] using hc) hz
    rw [Array.toList_setIfInBounds, List.take_set, htake]
theorem Own.st2' {w : World} {e : TypeId} {s : Slc} {vs : List Value} {x : Nat} {x' : Int} {v0 v1 : Value} {K : World → Prop} (h : Own w e 2 s vs) (hx : x < s.l) (hx' : x' = (x : Int))
    (hK : ∀ w', Own w' e 2 s ((vs.set (x * 2) v0).set (x * 2 + 1) v1) → Ch [blkOf s] w w' → w'.heap.size = w.heap.size → K w') : idxP s.a s.l x' 2 fun a => stP a v0 w fun w1 => stP (a.add 1) v1 w1 K := by
  subst hx'
  rcases h.2 with ⟨hs, hn⟩ | ⟨g, cap, cur, hs, hb, hg, hnc, hcm, hcs, htake⟩
  · omega
  · have hs' := hs
    injection hs with e1 e2 e3
    refine idxP_intro (by omega) (by omega) e1 ?_
    rw [Int.toNat_natCast]
    refine stB hg (by omega) fun w1 hc1 hb1 hz1 => ?_
    rw [Deep.add_add]
    refine stB hb1 (by simp; omega) fun w' hc hb' hz => hK w' ⟨by rw [List.length_set, List.length_set]; exact h.1, .inr ⟨g, cap, _, hs', hb, hb', hnc, hcm, by simpa using hcs, ?_⟩⟩ (by simpa [blkOf, e1] using hc1.tr hc) (by omega)
    rw [Array.toList_setIfInBounds, List.take_set, Array.toList_setIfInBounds, List.take_set, htake]
theorem Own.cell {w : World} {e : TypeId} {sz : Nat} {s : Slc} {vs : List Value} (h : Own w e sz s vs) {j : Nat} {v : Value} (hv : vs[j]? = some v) : ∃ ad, s.a = some ad ∧ w.cell? (ad.add j) = some v := by
  have hj := (List.getElem?_eq_some_iff.1 hv).1
  have hlen := h.len
  rcases h.2 with ⟨hs, hn⟩ | ⟨g, cap, cur, hs, hb, hg, hnc, hcm, hcs, htake⟩
  · rw [hn] at hlen; omega
  · injection hs with e1 e2 e3
    refine ⟨_, e1, ?_⟩
    rw [add_mk, Nat.zero_add, Blk.cell (cur := cur) (t := e) hg]
    rw [← htake, List.getElem?_take, if_pos (by omega)] at hv
    simpa using hv
theorem Own.rdC2 {w : World} {e : TypeId} {s : Slc} {cs : List (Int × Int)} (h : Own w e 2 s (flat cs)) : RdC w s cs := by
  have hl : s.l = cs.length := by have := h.len; rw [flat_length] at this; omega
  refine ⟨hl, ?_, fun i x hx => ?_⟩
  · rcases h.2 with ⟨hs, hn⟩ | ⟨g, cap, cur, hs, hb, hg, hnc, hcm, hcs, htake⟩
    · injection hs with e1 e2 e3; omega
    · injection hs with e1 e2 e3; omega
  · obtain ⟨h1, h2⟩ := flat_at cs i x hx
    obtain ⟨ad, ha, c1⟩ := h.cell h1
    obtain ⟨ad', ha', c2⟩ := h.cell h2
    rw [ha] at ha'; cases ha'
    exact ⟨ad, ha, c1, by rw [Deep.add_add]; exact c2⟩
end Go.Pl
namespace Go.Vm
open Go Go.Sh Go.Pl Go.Lang
def flatR (rs : List Cel) : List Value := rs.flatMap fun x => [.bool x.1, .int .i64 x.2]
theorem flatR_length (cs : List Cel) : (flatR cs).length = cs.length * 2 := by
  induction cs with
  | nil => rfl
  | cons x cs ih =>
    show ([Value.bool x.1, .int .i64 x.2] ++ flatR cs).length = _
    rw [List.length_append, ih, List.length_cons]
    simp; omega
theorem flatR_at : ∀ (cs : List Cel) (i : Nat) (x : Cel), cs[i]? = some x → (flatR cs)[i * 2]? = some (.bool x.1) ∧ (flatR cs)[i * 2 + 1]? = some (.int .i64 x.2)
  | [], i, x, h => by simp at h
  | y :: cs, 0, x, h => by
    simp at h; subst h
    exact ⟨rfl, rfl⟩
  | y :: cs, i + 1, x, h => by
    have := flatR_at cs i x (by simpa using h)
    have e : flatR (y :: cs) = [Value.bool y.1, .int .i64 y.2] ++ flatR cs := rfl
    rw [e, List.getElem?_append_right (by simp; omega), List.getElem?_append_right (by simp; omega)]
    simp only [List.length_cons, List.length_nil]
    rw [show (i + 1) * 2 - (0 + 1 + 1) = i * 2 by omega, show (i + 1) * 2 + 1 - (0 + 1 + 1) = i * 2 + 1 by omega]
    exact this
theorem flatR_one (cs : List Cel) : ∀ v ∈ flatR cs, v.oneCell' = true := by
  intro v hv
  obtain ⟨x, _, hx⟩ := List.mem_flatMap.1 hv
  simp at hx
  rcases hx with rfl | rfl <;> rfl
theorem flat_set : ∀ (cs : List (Int × Int)) (i : Nat) (p : Int × Int), ((flat cs).set (i * 2) (.int .i64 p.1)).set (i * 2 + 1) (.int .i64 p.2) = flat (cs.set i p)
  | [], i, p => rfl
  | y :: cs, 0, p => rfl
  | y :: cs, i + 1, p => by
    have := flat_set cs i p
    show ((Value.int .i64 y.1 :: .int .i64 y.2 :: flat cs).set ((i + 1) * 2) _).set ((i + 1) * 2 + 1) _ = Value.int .i64 y.1 :: .int .i64 y.2 :: flat (cs.set i p)
    rw [show (i + 1) * 2 = i * 2 + 1 + 1 by omega]
    simp only [List.set_cons_succ]
    rw [this]
theorem flat_rep (n : Nat) : flat (List.replicate n (0, 0)) = List.replicate (n * 2) (.int .i64 0) := by
  induction n with
  | zero => rfl
  | succ n ih =>
    show Value.int .i64 0 :: .int .i64 0 :: flat (List.replicate n (0, 0)) = _
    rw [ih, show (n + 1) * 2 = n * 2 + 1 + 1 by omega]
    rfl
end Go.Vm
namespace Go.Proofs.YtlnhecbgjjglfaaGreat
open Go Go.Sh Go.Pl Go.RowKit Go.Lang Go.Vm
theorem TI6 : ElT Tryz.prog 43 2 (.int .i64 0) 1 8 := ⟨by kernel_rfl, by kernel_rfl, rfl, by decide⟩
theorem TPu : ElT Tryz.prog 54 139 (.agg #[.int .i64 0, .int .i64 0]) 2 16 := ⟨by kernel_rfl, by kernel_rfl, rfl, by decide⟩
theorem TCe : ElT Tryz.prog 53 25 (.agg #[.bool false, .int .i64 0]) 2 16 := ⟨by kernel_rfl, by kernel_rfl, rfl, by decide⟩
/-- Where the machine's parts lie. -/
structure Sl where
  sc : Slc
  sa : Slc
  sr : Slc
  ss : Slc
  sl : Slc
  so : Slc
  sp : Slc
  f : Nat → Value
def mcells (E : En) (q : Sl) (m : Mc) : Array Value := #[.int .i64 E.a, .int .i64 E.b, .int .i64 E.c, .int .i64 E.d, slW q.sc, slW q.sa, slW q.sr, q.f 0, q.f 1, q.f 2, q.f 3, q.f 4, q.f 5, q.f 6, q.f 7, q.f 8, q.f 9, q.f 10, q.f 11, q.f 12, q.f 13, q.f 14, q.f 15, q.f 16, q.f 17, q.f 18, q.f 19, q.f 20, q.f 21, q.f 22, q.f 23, q.f 24, q.f 25, q.f 26, q.f 27, q.f 28, q.f 29, q.f 30, q.f 31, q.f 32, q.f 33, q.f 34, q.f 35, q.f 36, slW q.ss, slW q.sl, slW q.so, slW q.sp, .int .i64 m.pc, .int .i64 m.n, .bool m.dn, .int .i64 m.cd, .int .i64 m.us]
theorem mcells_two {E : En} {q : Sl} {m : Mc} : ∀ i, i < 37 → (mcells E q m)[7 + i]? = some (q.f i)
  | 0, _ => rfl | 1, _ => rfl | 2, _ => rfl | 3, _ => rfl | 4, _ => rfl | 5, _ => rfl | 6, _ => rfl | 7, _ => rfl | 8, _ => rfl | 9, _ => rfl | 10, _ => rfl | 11, _ => rfl | 12, _ => rfl | 13, _ => rfl | 14, _ => rfl | 15, _ => rfl | 16, _ => rfl | 17, _ => rfl | 18, _ => rfl | 19, _ => rfl | 20, _ => rfl | 21, _ => rfl | 22, _ => rfl | 23, _ => rfl | 24, _ => rfl | 25, _ => rfl | 26, _ => rfl | 27, _ => rfl | 28, _ => rfl | 29, _ => rfl | 30, _ => rfl | 31, _ => rfl | 32, _ => rfl | 33, _ => rfl | 34, _ => rfl | 35, _ => rfl | 36, _ => rfl
  | n + 37, h => absurd h (by omega)
theorem mcells_size (E : En) (q : Sl) (m : Mc) : (mcells E q m).size = 53 := rfl
/-- The function of an instruction with two values: a closure over a plain one. -/
structure Clo (w : World) (O : Nat → Nat) (v : Value) (g : Nat) (t : TypeId) (h : Nat) : Prop where
  e : ∃ k, v = .func (.func g) #[] #[.pointer (some ⟨k, 0, none⟩)] ∧ Blk w k #[.func (.func h) #[] #[]] t ∧ O k = 6
def gOf (op : Nat) : Nat := if op = 13 ∨ op = 14 then 107 else if op = 18 ∨ op = 19 then 108 else if 22 ≤ op ∧ op ≤ 27 then 109 else 106
def tOf (op : Nat) : TypeId := if 22 ≤ op ∧ op ≤ 27 then 154 else 152
def hOf : Nat → Nat
  | 10 => 76 | 11 => 77 | 12 => 78 | 13 => 80 | 14 => 81 | 15 => 82 | 16 => 83 | 17 => 84 | 18 => 86 | 19 => 87 | 22 => 89 | 23 => 90 | 24 => 91 | 25 => 92 | 26 => 93 | 27 => 94 | 28 => 95 | _ => 96
def isTwo (op : Nat) : Prop := (10 ≤ op ∧ op ≤ 19) ∨ (22 ≤ op ∧ op ≤ 29)
structure MmX (w : World) (b : Nat) (E : En) (m : Mc) (q : Sl) (O : Nat → Nat) : Prop where
  blk : Blk w b (mcells E q m) 133
  co : Own w 102 2 q.sc (flat E.is)
  ar : Own w 2 1 q.sa (Is .i64 E.args)
  re : Own w 25 2 q.sr (flatR E.rs)
  st : Own w 2 1 q.ss (Is .i64 m.st.reverse)
  lo : Own w 2 1 q.sl (Is .i64 m.lo)
  ou : Own w 2 1 q.so (Is .i64 m.out)
  pu : Own w 139 2 q.sp (flat m.pu)
  fn : ∀ op, isTwo op → Clo w O (q.f op) (gOf op) (tOf op) (hOf op)
  ob : O b = 1
  oc : ∀ k, blkOf q.sc = some k → O k = 6
  oa : ∀ k, blkOf q.sa = some k → O k = 6
  oR : ∀ k, blkOf q.sr = some k → O k = 6
  os : ∀ k, blkOf q.ss = some k → O k = 2
  ol : ∀ k, blkOf q.sl = some k → O k = 3
  oo : ∀ k, blkOf q.so = some k → O k = 4
  op : ∀ k, blkOf q.sp = some k → O k = 5
theorem MmX.chg {w w' : World} {b : Nat} {E : En} {m : Mc} {q : Sl} {O : Nat → Nat} {T : Nat → Prop} (h : MmX w b E m q O) (hc : Chg T w w') (hT : ∀ k, k < w.heap.size → O k ≠ 0 → ¬ T k) : MmX w' b E m q O where
  blk := h.blk.chg hc (hT _ h.blk.lt (by rw [h.ob]; decide))
  co := h.co.chg hc fun k hk => hT _ (h.co.lt k hk) (by rw [h.oc k hk]; decide)
  ar := h.ar.chg hc fun k hk => hT _ (h.ar.lt k hk) (by rw [h.oa k hk]; decide)
  re := h.re.chg hc fun k hk => hT _ (h.re.lt k hk) (by rw [h.oR k hk]; decide)
  st := h.st.chg hc fun k hk => hT _ (h.st.lt k hk) (by rw [h.os k hk]; decide)
  lo := h.lo.chg hc fun k hk => hT _ (h.lo.lt k hk) (by rw [h.ol k hk]; decide)
  ou := h.ou.chg hc fun k hk => hT _ (h.ou.lt k hk) (by rw [h.oo k hk]; decide)
  pu := h.pu.chg hc fun k hk => hT _ (h.pu.lt k hk) (by rw [h.op k hk]; decide)
  fn := fun op ho => by
    obtain ⟨k, e, hb, hk⟩ := (h.fn op ho).e
    exact ⟨k, e, hb.chg hc (hT _ hb.lt (by rw [hk]; decide)), hk⟩
  ob := h.ob
  oc := h.oc
  oa := h.oa
  oR := h.oR
  os := h.os
  ol := h.ol
  oo := h.oo
  op := h.op
theorem MmX.ch0 {w w' : World} {b : Nat} {E : En} {m : Mc} {q : Sl} {O : Nat → Nat} (h : MmX w b E m q O) (hc : Ch [] w w') : MmX w' b E m q O := h.chg hc fun _ _ _ h => h
theorem MmX.rel {w : World} {b : Nat} {E : En} {m : Mc} {q : Sl} {O O' : Nat → Nat} (h : MmX w b E m q O) (ho : ∀ k, k < w.heap.size → O' k = O k) : MmX w b E m q O' where
  blk := h.blk
  co := h.co
  ar := h.ar
  re := h.re
  st := h.st
  lo := h.lo
  ou := h.ou
  pu := h.pu
  fn := fun op hp => by
    obtain ⟨k, e, hb, hk⟩ := (h.fn op hp).e
    exact ⟨k, e, hb, by rw [ho k hb.lt]; exact hk⟩
  ob := by rw [ho _ h.blk.lt]; exact h.ob
  oc := fun k hk => by rw [ho _ (h.co.lt k hk)]; exact h.oc k hk
  oa := fun k hk => by rw [ho _ (h.ar.lt k hk)]; exact h.oa k hk
  oR := fun k hk => by rw [ho _ (h.re.lt k hk)]; exact h.oR k hk
  os := fun k hk => by rw [ho _ (h.st.lt k hk)]; exact h.os k hk
  ol := fun k hk => by rw [ho _ (h.lo.lt k hk)]; exact h.ol k hk
  oo := fun k hk => by rw [ho _ (h.ou.lt k hk)]; exact h.oo k hk
  op := fun k hk => by rw [ho _ (h.pu.lt k hk)]; exact h.op k hk
/-- The machine's own blocks alone have changed. -/
def Sp (O : Nat → Nat) (w : World) (O' : Nat → Nat) (w' : World) : Prop := (∀ k, k < w.heap.size → O' k = O k) ∧ Chg (fun k => O k ≠ 0) w w'
theorem Sp.refl (O : Nat → Nat) (w : World) : Sp O w O w := ⟨fun _ _ => rfl, Chg.refl _ _⟩
theorem Sp.c0 {O : Nat → Nat} {w w' : World} (h : Ch [] w w') : Sp O w O w' := ⟨fun _ _ => rfl, Chg.mono h fun _ _ h => h.elim⟩
theorem Sp.tr {O O1 O2 : Nat → Nat} {w w1 w2 : World} (h : Sp O w O1 w1) (k : Sp O1 w1 O2 w2) : Sp O w O2 w2 :=
  ⟨fun i hi => by rw [k.1 i (Nat.lt_of_lt_of_le hi h.2.size), h.1 i hi], h.2.step k.2 fun i hi hne => by rw [← h.1 i hi]; exact hne⟩
theorem Sp.af {O O2 : Nat → Nat} {w w1 w2 : World} (h : Ch [] w w1) (k : Sp O w1 O2 w2) : Sp O w O2 w2 := (Sp.c0 h).tr k
/-- One cell of the machine's block is written. -/
theorem MmX.put {w : World} {b : Nat} {E : En} {m m' : Mc} {q : Sl} {O : Nat → Nat} {o : Nat} {v : Value} {K : World → Prop} (h : MmX w b E m q O) (ho : o < 53) (he : (mcells E q m).setIfInBounds o v = mcells E q m') (h1 : m'.st = m.st) (h2 : m'.lo = m.lo) (h3 : m'.out = m.out) (h4 : m'.pu = m.pu)
    (hK : ∀ w', MmX w' b E m' q O → Sp O w O w' → K w') : stP ((⟨b, 0, none⟩ : Addr).add o) v w K := by
  refine stB h.blk ho fun w' hc hb hs => ?_
  rw [he] at hb
  have hc' : Chg (fun k => k = b) w w' := Chg.mono hc fun i _ hi => by have hi : some i = some b := hi; cases hi; rfl
  have ne : ∀ k, O k ≠ 1 → ¬ k = b := fun k hk hkb => hk (by rw [hkb]; exact h.ob)
  refine hK w' ⟨hb, h.co.chg hc' fun k hk => ne k (by rw [h.oc k hk]; decide), h.ar.chg hc' fun k hk => ne k (by rw [h.oa k hk]; decide), h.re.chg hc' fun k hk => ne k (by rw [h.oR k hk]; decide), ?_, ?_, ?_, ?_, fun op hop => ?_, h.ob, h.oc, h.oa, h.oR, h.os, h.ol, h.oo, h.op⟩ ⟨fun _ _ => rfl, hc'.mono fun i _ hi => by rw [hi, h.ob]; decide⟩
  · rw [h1]; exact h.st.chg hc' fun k hk => ne k (by rw [h.os k hk]; decide)
  · rw [h2]; exact h.lo.chg hc' fun k hk => ne k (by rw [h.ol k hk]; decide)
  · rw [h3]; exact h.ou.chg hc' fun k hk => ne k (by rw [h.oo k hk]; decide)
  · rw [h4]; exact h.pu.chg hc' fun k hk => ne k (by rw [h.op k hk]; decide)
  · obtain ⟨k, e, hb', hk⟩ := (h.fn op hop).e
    exact ⟨k, e, hb'.chg hc' (ne k (by rw [hk]; decide)), hk⟩
/-- A part that has changed in memory; its slice is written next. -/
structure Part (w : World) (b : Nat) (E : En) (m : Mc) (q : Sl) (O : Nat → Nat) (w1 : World) (j : Nat) (s s' : Slc) : Prop where
  h : MmX w b E m q O
  chg : Chg (fun k => some k = blkOf s) w w1
  lab : ∀ k, blkOf s = some k → O k = j
  new : ∀ k, blkOf s' = some k → blkOf s = some k ∨ w.heap.size ≤ k
/-- The labels with a new block's. -/
def relab (O : Nat → Nat) (n j : Nat) : Nat → Nat := fun k => if k < n then O k else j
theorem relab_lt {O : Nat → Nat} {n j k : Nat} (h : k < n) : relab O n j k = O k := if_pos h
theorem relab_ge {O : Nat → Nat} {n j k : Nat} (h : n ≤ k) : relab O n j k = j := if_neg (by omega)
theorem Part.lab' {w : World} {b : Nat} {E : En} {m : Mc} {q : Sl} {O : Nat → Nat} {w1 : World} {j : Nat} {s s' : Slc} (p : Part w b E m q O w1 j s s') (hl : ∀ k, blkOf s = some k → k < w.heap.size) : ∀ k, blkOf s' = some k → relab O w.heap.size j k = j := fun k hk => by
  rcases p.new k hk with h | h
  · rw [relab_lt (hl k h)]; exact p.lab k h
  · exact relab_ge h
set_option maxRecDepth 4000
theorem MmX.stk {w w1 : World} {b : Nat} {E : En} {m : Mc} {q : Sl} {O : Nat → Nat} {s' : Slc} {st' : List Int} {K : World → Prop} (p : Part w b E m q O w1 2 q.ss s') (ho : Own w1 2 1 s' (Is .i64 st'.reverse))
    (hK : ∀ O' w', MmX w' b E { m with st := st' } { q with ss := s' } O' → Sp O w O' w' → K w') : stP ((⟨b, 0, none⟩ : Addr).add 44) (slW s') w1 K := by
  have h := p.h.rel (O' := relab O w.heap.size 2) fun k hk => relab_lt hk
  have hl' := p.lab' p.h.st.lt
  generalize hO : relab O w.heap.size 2 = O' at *
  have hc1 : Chg (fun k => O' k = 2) w w1 := p.chg.mono fun k _ hk => h.os k hk.symm
  refine stB (o := 44) (h.blk.chg hc1 (by rw [h.ob]; decide)) (show 44 < 53 by decide) fun w' hc2 hb2 hs2 => ?_
  have hc2 : Chg (fun k => O' k = 1) w1 w' := Chg.mono hc2 fun k _ hk => by have hk : some k = some b := hk; cases hk; exact h.ob
  refine hK O' w' ⟨hb2, (h.co.chg hc1 (fun k hk => by rw [h.oc k hk]; decide)).chg hc2 (fun k hk => by rw [h.oc k hk]; decide), (h.ar.chg hc1 (fun k hk => by rw [h.oa k hk]; decide)).chg hc2 (fun k hk => by rw [h.oa k hk]; decide), (h.re.chg hc1 (fun k hk => by rw [h.oR k hk]; decide)).chg hc2 (fun k hk => by rw [h.oR k hk]; decide), ho.chg hc2 (fun k hk => by rw [hl' k hk]; decide), (h.lo.chg hc1 (fun k hk => by rw [h.ol k hk]; decide)).chg hc2 (fun k hk => by rw [h.ol k hk]; decide), (h.ou.chg hc1 (fun k hk => by rw [h.oo k hk]; decide)).chg hc2 (fun k hk => by rw [h.oo k hk]; decide), (h.pu.chg hc1 (fun k hk => by rw [h.op k hk]; decide)).chg hc2 (fun k hk => by rw [h.op k hk]; decide), fun op hop => ?_, h.ob, h.oc, h.oa, h.oR, hl', h.ol, h.oo, h.op⟩ ⟨fun k hk => by rw [← hO]; exact relab_lt hk, ?_⟩
  · obtain ⟨k, e, hb', hk⟩ := (h.fn op hop).e
    exact ⟨k, e, (hb'.chg hc1 (by rw [hk]; decide)).chg hc2 (by rw [hk]; decide), hk⟩
  · have hz : ∀ k, k < w.heap.size → O' k = O k := fun k hk => by rw [← hO]; exact relab_lt hk
    refine (Chg.mono hc1 fun i hi e => ?_ : Chg (fun k => O k ≠ 0) w w1).step hc2 fun i hi e => ?_
    · rw [← hz i hi, e]; decide
    · rw [← hz i hi, e]; decide
theorem MmX.lok {w w1 : World} {b : Nat} {E : En} {m : Mc} {q : Sl} {O : Nat → Nat} {s' : Slc} {lo' : List Int} {K : World → Prop} (p : Part w b E m q O w1 3 q.sl s') (ho : Own w1 2 1 s' (Is .i64 lo'))
    (hK : ∀ O' w', MmX w' b E { m with lo := lo' } { q with sl := s' } O' → Sp O w O' w' → K w') : stP ((⟨b, 0, none⟩ : Addr).add 45) (slW s') w1 K := by
  have h := p.h.rel (O' := relab O w.heap.size 3) fun k hk => relab_lt hk
  have hl' := p.lab' p.h.lo.lt
  generalize hO : relab O w.heap.size 3 = O' at *
  have hc1 : Chg (fun k => O' k = 3) w w1 := p.chg.mono fun k _ hk => h.ol k hk.symm
  refine stB (o := 45) (h.blk.chg hc1 (by rw [h.ob]; decide)) (show 45 < 53 by decide) fun w' hc2 hb2 hs2 => ?_
  have hc2 : Chg (fun k => O' k = 1) w1 w' := Chg.mono hc2 fun k _ hk => by have hk : some k = some b := hk; cases hk; exact h.ob
  refine hK O' w' ⟨hb2, (h.co.chg hc1 (fun k hk => by rw [h.oc k hk]; decide)).chg hc2 (fun k hk => by rw [h.oc k hk]; decide), (h.ar.chg hc1 (fun k hk => by rw [h.oa k hk]; decide)).chg hc2 (fun k hk => by rw [h.oa k hk]; decide), (h.re.chg hc1 (fun k hk => by rw [h.oR k hk]; decide)).chg hc2 (fun k hk => by rw [h.oR k hk]; decide), (h.st.chg hc1 (fun k hk => by rw [h.os k hk]; decide)).chg hc2 (fun k hk => by rw [h.os k hk]; decide), ho.chg hc2 (fun k hk => by rw [hl' k hk]; decide), (h.ou.chg hc1 (fun k hk => by rw [h.oo k hk]; decide)).chg hc2 (fun k hk => by rw [h.oo k hk]; decide), (h.pu.chg hc1 (fun k hk => by rw [h.op k hk]; decide)).chg hc2 (fun k hk => by rw [h.op k hk]; decide), fun op hop => ?_, h.ob, h.oc, h.oa, h.oR, h.os, hl', h.oo, h.op⟩ ⟨fun k hk => by rw [← hO]; exact relab_lt hk, ?_⟩
  · obtain ⟨k, e, hb', hk⟩ := (h.fn op hop).e
    exact ⟨k, e, (hb'.chg hc1 (by rw [hk]; decide)).chg hc2 (by rw [hk]; decide), hk⟩
  · have hz : ∀ k, k < w.heap.size → O' k = O k := fun k hk => by rw [← hO]; exact relab_lt hk
    refine (Chg.mono hc1 fun i hi e => ?_ : Chg (fun k => O k ≠ 0) w w1).step hc2 fun i hi e => ?_
    · rw [← hz i hi, e]; decide
    · rw [← hz i hi, e]; decide
theorem MmX.ouk {w w1 : World} {b : Nat} {E : En} {m : Mc} {q : Sl} {O : Nat → Nat} {s' : Slc} {out' : List Int} {K : World → Prop} (p : Part w b E m q O w1 4 q.so s') (ho : Own w1 2 1 s' (Is .i64 out'))
    (hK : ∀ O' w', MmX w' b E { m with out := out' } { q with so := s' } O' → Sp O w O' w' → K w') : stP ((⟨b, 0, none⟩ : Addr).add 46) (slW s') w1 K := by
  have h := p.h.rel (O' := relab O w.heap.size 4) fun k hk => relab_lt hk
  have hl' := p.lab' p.h.ou.lt
  generalize hO : relab O w.heap.size 4 = O' at *
  have hc1 : Chg (fun k => O' k = 4) w w1 := p.chg.mono fun k _ hk => h.oo k hk.symm
  refine stB (o := 46) (h.blk.chg hc1 (by rw [h.ob]; decide)) (show 46 < 53 by decide) fun w' hc2 hb2 hs2 => ?_
  have hc2 : Chg (fun k => O' k = 1) w1 w' := Chg.mono hc2 fun k _ hk => by have hk : some k = some b := hk; cases hk; exact h.ob
  refine hK O' w' ⟨hb2, (h.co.chg hc1 (fun k hk => by rw [h.oc k hk]; decide)).chg hc2 (fun k hk => by rw [h.oc k hk]; decide), (h.ar.chg hc1 (fun k hk => by rw [h.oa k hk]; decide)).chg hc2 (fun k hk => by rw [h.oa k hk]; decide), (h.re.chg hc1 (fun k hk => by rw [h.oR k hk]; decide)).chg hc2 (fun k hk => by rw [h.oR k hk]; decide), (h.st.chg hc1 (fun k hk => by rw [h.os k hk]; decide)).chg hc2 (fun k hk => by rw [h.os k hk]; decide), (h.lo.chg hc1 (fun k hk => by rw [h.ol k hk]; decide)).chg hc2 (fun k hk => by rw [h.ol k hk]; decide), ho.chg hc2 (fun k hk => by rw [hl' k hk]; decide), (h.pu.chg hc1 (fun k hk => by rw [h.op k hk]; decide)).chg hc2 (fun k hk => by rw [h.op k hk]; decide), fun op hop => ?_, h.ob, h.oc, h.oa, h.oR, h.os, h.ol, hl', h.op⟩ ⟨fun k hk => by rw [← hO]; exact relab_lt hk, ?_⟩
  · obtain ⟨k, e, hb', hk⟩ := (h.fn op hop).e
    exact ⟨k, e, (hb'.chg hc1 (by rw [hk]; decide)).chg hc2 (by rw [hk]; decide), hk⟩
  · have hz : ∀ k, k < w.heap.size → O' k = O k := fun k hk => by rw [← hO]; exact relab_lt hk
    refine (Chg.mono hc1 fun i hi e => ?_ : Chg (fun k => O k ≠ 0) w w1).step hc2 fun i hi e => ?_
    · rw [← hz i hi, e]; decide
    · rw [← hz i hi, e]; decide
theorem MmX.puk {w w1 : World} {b : Nat} {E : En} {m : Mc} {q : Sl} {O : Nat → Nat} {s' : Slc} {pu' : List (Int × Int)} {K : World → Prop} (p : Part w b E m q O w1 5 q.sp s') (ho : Own w1 139 2 s' (flat pu'))
    (hK : ∀ O' w', MmX w' b E { m with pu := pu' } { q with sp := s' } O' → Sp O w O' w' → K w') : stP ((⟨b, 0, none⟩ : Addr).add 47) (slW s') w1 K := by
  have h := p.h.rel (O' := relab O w.heap.size 5) fun k hk => relab_lt hk
  have hl' := p.lab' p.h.pu.lt
  generalize hO : relab O w.heap.size 5 = O' at *
  have hc1 : Chg (fun k => O' k = 5) w w1 := p.chg.mono fun k _ hk => h.op k hk.symm
  refine stB (o := 47) (h.blk.chg hc1 (by rw [h.ob]; decide)) (show 47 < 53 by decide) fun w' hc2 hb2 hs2 => ?_
  have hc2 : Chg (fun k => O' k = 1) w1 w' := Chg.mono hc2 fun k _ hk => by have hk : some k = some b := hk; cases hk; exact h.ob
  refine hK O' w' ⟨hb2, (h.co.chg hc1 (fun k hk => by rw [h.oc k hk]; decide)).chg hc2 (fun k hk => by rw [h.oc k hk]; decide), (h.ar.chg hc1 (fun k hk => by rw [h.oa k hk]; decide)).chg hc2 (fun k hk => by rw [h.oa k hk]; decide), (h.re.chg hc1 (fun k hk => by rw [h.oR k hk]; decide)).chg hc2 (fun k hk => by rw [h.oR k hk]; decide), (h.st.chg hc1 (fun k hk => by rw [h.os k hk]; decide)).chg hc2 (fun k hk => by rw [h.os k hk]; decide), (h.lo.chg hc1 (fun k hk => by rw [h.ol k hk]; decide)).chg hc2 (fun k hk => by rw [h.ol k hk]; decide), (h.ou.chg hc1 (fun k hk => by rw [h.oo k hk]; decide)).chg hc2 (fun k hk => by rw [h.oo k hk]; decide), ho.chg hc2 (fun k hk => by rw [hl' k hk]; decide), fun op hop => ?_, h.ob, h.oc, h.oa, h.oR, h.os, h.ol, h.oo, hl'⟩ ⟨fun k hk => by rw [← hO]; exact relab_lt hk, ?_⟩
  · obtain ⟨k, e, hb', hk⟩ := (h.fn op hop).e
    exact ⟨k, e, (hb'.chg hc1 (by rw [hk]; decide)).chg hc2 (by rw [hk]; decide), hk⟩
  · have hz : ∀ k, k < w.heap.size → O' k = O k := fun k hk => by rw [← hO]; exact relab_lt hk
    refine (Chg.mono hc1 fun i hi e => ?_ : Chg (fun k => O k ≠ 0) w w1).step hc2 fun i hi e => ?_
    · rw [← hz i hi, e]; decide
    · rw [← hz i hi, e]; decide
theorem MmX.loa {w w1 : World} {b : Nat} {E : En} {m : Mc} {q : Sl} {O : Nat → Nat} {lo' : List Int} (h : MmX w b E m q O) (ho : Own w1 2 1 q.sl (Is .i64 lo')) (hc : Ch [blkOf q.sl] w w1) : MmX w1 b E { m with lo := lo' } q O ∧ Sp O w O w1 := by
  have hc1 : Chg (fun k => O k = 3) w w1 := Chg.mono hc fun k _ hk => h.ol k (Eq.symm (show some k = blkOf q.sl from hk))
  refine ⟨⟨h.blk.chg hc1 (by rw [h.ob]; decide), h.co.chg hc1 (fun k hk => by rw [h.oc k hk]; decide), h.ar.chg hc1 (fun k hk => by rw [h.oa k hk]; decide), h.re.chg hc1 (fun k hk => by rw [h.oR k hk]; decide), h.st.chg hc1 (fun k hk => by rw [h.os k hk]; decide), ho, h.ou.chg hc1 (fun k hk => by rw [h.oo k hk]; decide), h.pu.chg hc1 (fun k hk => by rw [h.op k hk]; decide), fun op hop => ?_, h.ob, h.oc, h.oa, h.oR, h.os, h.ol, h.oo, h.op⟩, ⟨fun _ _ => rfl, hc1.mono fun k _ hk => by rw [hk]; decide⟩⟩
  obtain ⟨k, e, hb', hk⟩ := (h.fn op hop).e
  exact ⟨k, e, hb'.chg hc1 (by rw [hk]; decide), hk⟩
theorem MmX.pua {w w1 : World} {b : Nat} {E : En} {m : Mc} {q : Sl} {O : Nat → Nat} {pu' : List (Int × Int)} (h : MmX w b E m q O) (ho : Own w1 139 2 q.sp (flat pu')) (hc : Ch [blkOf q.sp] w w1) : MmX w1 b E { m with pu := pu' } q O ∧ Sp O w O w1 := by
  have hc1 : Chg (fun k => O k = 5) w w1 := Chg.mono hc fun k _ hk => h.op k (Eq.symm (show some k = blkOf q.sp from hk))
  refine ⟨⟨h.blk.chg hc1 (by rw [h.ob]; decide), h.co.chg hc1 (fun k hk => by rw [h.oc k hk]; decide), h.ar.chg hc1 (fun k hk => by rw [h.oa k hk]; decide), h.re.chg hc1 (fun k hk => by rw [h.oR k hk]; decide), h.st.chg hc1 (fun k hk => by rw [h.os k hk]; decide), h.lo.chg hc1 (fun k hk => by rw [h.ol k hk]; decide), h.ou.chg hc1 (fun k hk => by rw [h.oo k hk]; decide), ho, fun op hop => ?_, h.ob, h.oc, h.oa, h.oR, h.os, h.ol, h.oo, h.op⟩, ⟨fun _ _ => rfl, hc1.mono fun k _ hk => by rw [hk]; decide⟩⟩
  obtain ⟨k, e, hb', hk⟩ := (h.fn op hop).e
  exact ⟨k, e, hb'.chg hc1 (by rw [hk]; decide), hk⟩

set_option maxRecDepth 4000 in
theorem pop_ok {w : World} {b : Nat} {E : En} {m : Mc} {q : Sl} {O : Nat → Nat} {v : Int} {r : List Int} {K : Int → World → Prop} (h : MmX w b E m q O) (hs : m.st = v :: r) (hl : r.length ≤ 1000) (hK : ∀ s' O' w', MmX w' b E { m with st := r } { q with ss := s' } O' → Sp O w O' w' → K v w') : c_vm_Machine_pop (some ⟨b, 0, none⟩) w K := by
  refine sim_vm_Machine_pop ?_
  unfold sh_vm_Machine_pop
  have hst := h.st
  rw [hs, List.reverse_cons] at hst
  have hlen : q.ss.l = r.length + 1 := by have := hst.rd.len; simpa using this
  have hcap := hst.rd.cap
  have d1 : Ch [] w w.drew := Ch.drew _
  have d2 : Ch [] w w.drew.drew := d1.tr (Ch.drew _)
  have h1 := h.ch0 d1
  have h2 := h.ch0 d2
  simp only [nnP_some]
  refine ldS_b (s := q.ss) h1.blk rfl (ldS_b (s := q.ss) h1.blk rfl ?_)
  have hw : IntKind.i64.wrap ((q.ss.l : Int) - 1) = (r.length : Int) := by rw [wrap_i64 (by omega)]; omega
  rw [hw]
  refine (hst.ch0 d1).rd.get (k := .i64) (ds := r.reverse ++ [v]) (v := v) (by omega) (by rw [Int.toNat_natCast]; simp) ?_
  refine ldS_b (s := q.ss) h2.blk rfl (ldS_b (s := q.ss) h2.blk rfl ?_)
  rw [hw]
  unfold slP
  simp only [Option.getD_none, Option.getD_some, Int.toNat_zero, Nat.zero_mul, Nat.sub_zero, Int.toNat_natCast]
  refine ⟨by omega, by omega, by omega, ?_⟩
  have e : (if q.ss.c = 0 then q.ss.a else q.ss.a.map (·.add 0)) = q.ss.a := by
    split
    · rfl
    · cases q.ss.a <;> rfl
  rw [e]
  have hn : q.ss.a ≠ none := fun hn => by have := (h.st.none0 hn).1; omega
  have ho : Own w.drew.drew 2 1 ⟨q.ss.a, r.length, q.ss.c⟩ (Is .i64 r.reverse) := by
    have := (hst.ch0 d2).pre' (r := ⟨q.ss.a, r.length, q.ss.c⟩) rfl rfl (by simp only []; omega) hn
    have e2 : (Is .i64 (r.reverse ++ [v])).take (r.length * 1) = Is .i64 r.reverse := by
      unfold Is
      rw [List.map_append, List.take_append_of_le_length (by simp), List.take_of_length_le (by simp)]
    rw [← e2]; exact this
  refine MmX.stk (s' := ⟨q.ss.a, r.length, q.ss.c⟩) (st' := r) ⟨h, Chg.mono d2 fun _ _ h => h.elim, h.os, fun k hk => .inl hk⟩ ho fun O' w' hm hsp => hK _ O' w' hm hsp
set_option maxRecDepth 4000 in
theorem push_ok {w : World} {b : Nat} {E : En} {m : Mc} {q : Sl} {O : Nat → Nat} {v : Int} {K : World → Prop} (h : MmX w b E m q O) (hl : m.st.length ≤ 1000) (hK : ∀ s' O' w', MmX w' b E { m with st := v :: m.st } { q with ss := s' } O' → Sp O w O' w' → K w') : c_vm_Machine_push (some ⟨b, 0, none⟩) v w K := by
  refine sim_vm_Machine_push ?_
  unfold sh_vm_Machine_push
  simp only [nnP_some]
  refine ldS_b (s := q.ss) h.blk rfl ?_
  have hlen : q.ss.l = m.st.length := by have := h.st.rd.len; simpa using this
  refine apB TI6 (cells := #[.int .i64 v]) rfl (by simp; rfl) h.st (by omega) (by omega) fun s' w1 ho hl' hg => ?_
  refine MmX.stk (st' := v :: m.st) ⟨h, hg.chg, h.os, hg.blk⟩ (by
    have e : Is .i64 (v :: m.st).reverse = Is .i64 m.st.reverse ++ [.int .i64 v] := by simp [Is]
    rw [e]; exact ho) fun O' w' hm hsp => hK _ O' w' hm hsp
theorem cread {w : World} {b : Nat} {E : En} {m : Mc} {q : Sl} {O : Nat → Nat} (h : MmX w b E m q O) {i : Int} {c : Cel} (h0 : 0 ≤ i) (hc : E.rs[i.toNat]? = some c) {K : Addr → Prop} (hK : ∀ ad, w.cell? ad = some (.bool c.1) → w.cell? (ad.add 1) = some (.int .i64 c.2) → K ad) : idxP q.sr.a q.sr.l i 2 K := by
  obtain ⟨e1, e2⟩ := flatR_at _ _ _ hc
  obtain ⟨ad, ha, c1⟩ := h.re.cell e1
  obtain ⟨ad', ha', c2⟩ := h.re.cell e2
  rw [ha] at ha'; cases ha'
  have hl : q.sr.l = E.rs.length := by have := h.re.len; rw [flatR_length] at this; omega
  have hi := (List.getElem?_eq_some_iff.1 hc).1
  exact ⟨h0, by omega, ad, ha, hK _ c1 (by rw [Deep.add_add]; exact c2)⟩
set_option maxRecDepth 4000 in
theorem vread_ok {w : World} {b : Nat} {E : En} {m : Mc} {q : Sl} {O : Nat → Nat} {i : Int} {K : Int → Int → World → Prop} (h : MmX w b E m q O) (hK : if i < 0 ∨ i ≥ (E.rs.length : Int) then K 0 203 w else K (rv E i) 0 w) : c_vm_Machine_read (some ⟨b, 0, none⟩) i w K := by
  refine sim_vm_Machine_read ?_
  unfold sh_vm_Machine_read
  simp only [nnP_some]
  have hl : q.sr.l = E.rs.length := by have := h.re.len; rw [flatR_length] at this; omega
  refine iteB_dec (fun h0 => by rwa [if_pos (.inl h0)] at hK) fun h0 => ?_
  refine ldS_b (s := q.sr) h.blk rfl ?_
  refine iteB_dec (fun h1 => by rwa [if_pos (.inr (by omega))] at hK) fun h1 => ?_
  rw [if_neg (by omega)] at hK
  have hc : E.rs[i.toNat]? = some E.rs[i.toNat] := List.getElem?_eq_getElem (by omega)
  unfold rv at hK
  rw [hc] at hK
  dsimp only at hK
  generalize E.rs[i.toNat] = c at *
  refine ldS_b (s := q.sr) h.blk rfl ?_
  refine cread h (by omega) hc fun ad c1 c2 => ldB_of c1 ?_
  cases hb : c.1 with
  | false => rw [hb] at hK; exact hK
  | true =>
    rw [hb] at hK
    refine iteB_neg rfl ?_
    refine ldS_b (s := q.sr) h.blk rfl ?_
    exact cread h (by omega) hc fun ad c1 c2 => ldI_of c2 hK
end Go.Proofs.YtlnhecbgjjglfaaGreat
