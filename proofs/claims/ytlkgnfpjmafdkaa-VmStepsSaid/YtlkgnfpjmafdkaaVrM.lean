/- VrM: the document's machine in memory (printed by wip/gen/mkvrm.py): its parts; take, lay, value, put, fails. -/
import Derived.Test.YtlkgnfpjmafdkaaVmC
set_option linter.unusedVariables false
set_option linter.unusedSimpArgs false
namespace Go.Proofs.Ytlkgnfpjmafdkaa
open Go Go.Sh Go.Pl Go.RowKit Go.Lang Go.Vm
variable {N0 : Nat}
def rcells (E : En) (q : Sl) (m : Mc) : Array Value := #[.int .i64 E.a, .int .i64 E.b, .int .i64 E.c, .int .i64 E.d, slW q.sc, slW q.sa, slW q.sr, slW q.ss, slW q.sl, slW q.so, slW q.sp, .int .i64 m.pc, .int .i64 m.n, .bool m.dn, .int .i64 m.cd, .int .i64 m.us]
/-- It holds whatever is written to memory that is new since there were N0 blocks. -/
def Stb (N0 : Nat) (w : World) (P : World → Prop) : Prop := ∀ w', Chg (fun k => N0 ≤ k) w w' → P w'
theorem Stb.af {w w1 : World} {P : World → Prop} (h : Stb N0 w P) (hc : Chg (fun k => N0 ≤ k) w w1) : Stb N0 w1 P := fun w' hc' => h w' (hc.step hc' fun _ _ h => h)
theorem Stb.now {w : World} {P : World → Prop} (h : Stb N0 w P) : P w := h w (Chg.refl _ _)
structure RmX (N0 : Nat) (w : World) (b : Nat) (E : En) (m : Mc) (q : Sl) (O : Nat → Nat) : Prop where
  blk : Blk w b (rcells E q m) 83
  co : Stb N0 w fun w => RdC w q.sc E.is
  ar : Stb N0 w fun w => RdQ w 1 q.sa (Is .i64 E.args)
  re : Stb N0 w fun w => RdQ w 2 q.sr (flatR E.rs)
  st : Own w 2 1 q.ss (Is .i64 m.st.reverse)
  lo : Own w 2 1 q.sl (Is .i64 m.lo)
  ou : Own w 2 1 q.so (Is .i64 m.out)
  pu : Own w 71 2 q.sp (flat m.pu)
  ob : O b = 1
  os : ∀ k, blkOf q.ss = some k → O k = 2
  ol : ∀ k, blkOf q.sl = some k → O k = 3
  oo : ∀ k, blkOf q.so = some k → O k = 4
  op : ∀ k, blkOf q.sp = some k → O k = 5
  nz : N0 ≤ w.heap.size
  nb : ∀ k, O k ≠ 0 → N0 ≤ k
theorem RmX.af {w w' : World} {b : Nat} {E : En} {m : Mc} {q : Sl} {O : Nat → Nat} (h : RmX N0 w b E m q O) (hc : Chg (fun k => O k ≠ 0) w w') : Chg (fun k => N0 ≤ k) w w' := hc.mono fun i _ e => h.nb i e
theorem RmX.rel {w : World} {b : Nat} {E : En} {m : Mc} {q : Sl} {O O' : Nat → Nat} (h : RmX N0 w b E m q O) (ho : ∀ k, k < w.heap.size → O' k = O k) : RmX N0 w b E m q O' where
  blk := h.blk
  co := h.co
  ar := h.ar
  re := h.re
  st := h.st
  lo := h.lo
  ou := h.ou
  pu := h.pu
  ob := by rw [ho _ h.blk.lt]; exact h.ob
  os := fun k hk => by rw [ho _ (h.st.lt k hk)]; exact h.os k hk
  ol := fun k hk => by rw [ho _ (h.lo.lt k hk)]; exact h.ol k hk
  oo := fun k hk => by rw [ho _ (h.ou.lt k hk)]; exact h.oo k hk
  op := fun k hk => by rw [ho _ (h.pu.lt k hk)]; exact h.op k hk
  nz := h.nz
  nb := fun k hk => by
    rcases Nat.lt_or_ge k w.heap.size with hlt | hge
    · exact h.nb k (by rw [← ho k hlt]; exact hk)
    · exact Nat.le_trans h.nz hge
theorem RmX.ch0 {w w' : World} {b : Nat} {E : En} {m : Mc} {q : Sl} {O : Nat → Nat} (h : RmX N0 w b E m q O) (hc : Ch [] w w') : RmX N0 w' b E m q O where
  blk := h.blk.ch0 hc
  co := h.co.af (Chg.mono hc fun _ _ h => h.elim)
  ar := h.ar.af (Chg.mono hc fun _ _ h => h.elim)
  re := h.re.af (Chg.mono hc fun _ _ h => h.elim)
  st := h.st.ch0 hc
  lo := h.lo.ch0 hc
  ou := h.ou.ch0 hc
  pu := h.pu.ch0 hc
  ob := h.ob
  os := h.os
  ol := h.ol
  oo := h.oo
  op := h.op
  nz := Nat.le_trans h.nz hc.size
  nb := h.nb
theorem RmX.r0 {w : World} {b : Nat} {E : En} {m : Mc} {q : Sl} {O : Nat → Nat} (h : RmX N0 w b E m q O) : RmX N0 w b E m q (relab O w.heap.size 0) := h.rel fun k hk => relab_lt hk
theorem RmX.put {w : World} {b : Nat} {E : En} {m m' : Mc} {q : Sl} {O : Nat → Nat} {o : Nat} {v : Value} {K : World → Prop} (h : RmX N0 w b E m q O) (ho : o < 16) (he : (rcells E q m).setIfInBounds o v = rcells E q m') (h1 : m'.st = m.st) (h2 : m'.lo = m.lo) (h3 : m'.out = m.out) (h4 : m'.pu = m.pu)
    (hK : ∀ w', RmX N0 w' b E m' q O → Sp O w O w' → K w') : stP ((⟨b, 0, none⟩ : Addr).add o) v w K := by
  refine stB h.blk ho fun w' hc hb hs => ?_
  rw [he] at hb
  have hc' : Chg (fun k => k = b) w w' := Chg.mono hc fun i _ hi => by have hi : some i = some b := hi; cases hi; rfl
  have ne : ∀ k, O k ≠ 1 → ¬ k = b := fun k hk hkb => hk (by rw [hkb]; exact h.ob)
  have hsp : Chg (fun k => O k ≠ 0) w w' := hc'.mono fun i _ hi => by rw [hi, h.ob]; decide
  refine hK w' ⟨hb, h.co.af (h.af hsp), h.ar.af (h.af hsp), h.re.af (h.af hsp), ?_, ?_, ?_, ?_, h.ob, h.os, h.ol, h.oo, h.op, Nat.le_trans h.nz hsp.size, h.nb⟩ ⟨fun _ _ => rfl, hsp⟩
  · rw [h1]; exact h.st.chg hc' fun k hk => ne k (by rw [h.os k hk]; decide)
  · rw [h2]; exact h.lo.chg hc' fun k hk => ne k (by rw [h.ol k hk]; decide)
  · rw [h3]; exact h.ou.chg hc' fun k hk => ne k (by rw [h.oo k hk]; decide)
  · rw [h4]; exact h.pu.chg hc' fun k hk => ne k (by rw [h.op k hk]; decide)
structure PartR (N0 : Nat) (w : World) (b : Nat) (E : En) (m : Mc) (q : Sl) (O : Nat → Nat) (w1 : World) (j : Nat) (s s' : Slc) : Prop where
  h : RmX N0 w b E m q O
  chg : Chg (fun k => some k = blkOf s) w w1
  lab : ∀ k, blkOf s = some k → O k = j
  new : ∀ k, blkOf s' = some k → blkOf s = some k ∨ w.heap.size ≤ k
theorem PartR.lab' {w : World} {b : Nat} {E : En} {m : Mc} {q : Sl} {O : Nat → Nat} {w1 : World} {j : Nat} {s s' : Slc} (p : PartR N0 w b E m q O w1 j s s') (hl : ∀ k, blkOf s = some k → k < w.heap.size) : ∀ k, blkOf s' = some k → relab O w.heap.size j k = j := fun k hk => by
  rcases p.new k hk with h | h
  · rw [relab_lt (hl k h)]; exact p.lab k h
  · exact relab_ge h
set_option maxRecDepth 4000
theorem RmX.stk {w w1 : World} {b : Nat} {E : En} {m : Mc} {q : Sl} {O : Nat → Nat} {s' : Slc} {st' : List Int} {K : World → Prop} (p : PartR N0 w b E m q O w1 2 q.ss s') (ho : Own w1 2 1 s' (Is .i64 st'.reverse))
    (hK : ∀ O' w', RmX N0 w' b E { m with st := st' } { q with ss := s' } O' → Sp O w O' w' → K w') : stP ((⟨b, 0, none⟩ : Addr).add 7) (slW s') w1 K := by
  have h := p.h.rel (O' := relab O w.heap.size 2) fun k hk => relab_lt hk
  have hl' := p.lab' p.h.st.lt
  have hz : ∀ k, k < w.heap.size → relab O w.heap.size 2 k = O k := fun k hk => relab_lt hk
  generalize relab O w.heap.size 2 = O' at *
  have hc1 : Chg (fun k => O' k = 2) w w1 := p.chg.mono fun k _ hk => h.os k hk.symm
  refine stB (o := 7) (h.blk.chg hc1 (by rw [h.ob]; decide)) (show 7 < 16 by decide) fun w' hc2 hb2 hs2 => ?_
  have hc2 : Chg (fun k => O' k = 1) w1 w' := Chg.mono hc2 fun k _ hk => by have hk : some k = some b := hk; cases hk; exact h.ob
  have hsp : Chg (fun k => O' k ≠ 0) w w' := (hc1.mono fun i hi e => by rw [e]; decide).step hc2 fun i hi e => by rw [e]; decide
  refine hK O' w' ⟨hb2, h.co.af (h.af hsp), h.ar.af (h.af hsp), h.re.af (h.af hsp), ho.chg hc2 (fun k hk => by rw [hl' k hk]; decide), (h.lo.chg hc1 (fun k hk => by rw [h.ol k hk]; decide)).chg hc2 (fun k hk => by rw [h.ol k hk]; decide), (h.ou.chg hc1 (fun k hk => by rw [h.oo k hk]; decide)).chg hc2 (fun k hk => by rw [h.oo k hk]; decide), (h.pu.chg hc1 (fun k hk => by rw [h.op k hk]; decide)).chg hc2 (fun k hk => by rw [h.op k hk]; decide), h.ob, hl', h.ol, h.oo, h.op, Nat.le_trans h.nz hsp.size, h.nb⟩ ⟨hz, hsp.mono fun i hi e => by rw [← hz i hi]; exact e⟩
theorem RmX.lok {w w1 : World} {b : Nat} {E : En} {m : Mc} {q : Sl} {O : Nat → Nat} {s' : Slc} {lo' : List Int} {K : World → Prop} (p : PartR N0 w b E m q O w1 3 q.sl s') (ho : Own w1 2 1 s' (Is .i64 lo'))
    (hK : ∀ O' w', RmX N0 w' b E { m with lo := lo' } { q with sl := s' } O' → Sp O w O' w' → K w') : stP ((⟨b, 0, none⟩ : Addr).add 8) (slW s') w1 K := by
  have h := p.h.rel (O' := relab O w.heap.size 3) fun k hk => relab_lt hk
  have hl' := p.lab' p.h.lo.lt
  have hz : ∀ k, k < w.heap.size → relab O w.heap.size 3 k = O k := fun k hk => relab_lt hk
  generalize relab O w.heap.size 3 = O' at *
  have hc1 : Chg (fun k => O' k = 3) w w1 := p.chg.mono fun k _ hk => h.ol k hk.symm
  refine stB (o := 8) (h.blk.chg hc1 (by rw [h.ob]; decide)) (show 8 < 16 by decide) fun w' hc2 hb2 hs2 => ?_
  have hc2 : Chg (fun k => O' k = 1) w1 w' := Chg.mono hc2 fun k _ hk => by have hk : some k = some b := hk; cases hk; exact h.ob
  have hsp : Chg (fun k => O' k ≠ 0) w w' := (hc1.mono fun i hi e => by rw [e]; decide).step hc2 fun i hi e => by rw [e]; decide
  refine hK O' w' ⟨hb2, h.co.af (h.af hsp), h.ar.af (h.af hsp), h.re.af (h.af hsp), (h.st.chg hc1 (fun k hk => by rw [h.os k hk]; decide)).chg hc2 (fun k hk => by rw [h.os k hk]; decide), ho.chg hc2 (fun k hk => by rw [hl' k hk]; decide), (h.ou.chg hc1 (fun k hk => by rw [h.oo k hk]; decide)).chg hc2 (fun k hk => by rw [h.oo k hk]; decide), (h.pu.chg hc1 (fun k hk => by rw [h.op k hk]; decide)).chg hc2 (fun k hk => by rw [h.op k hk]; decide), h.ob, h.os, hl', h.oo, h.op, Nat.le_trans h.nz hsp.size, h.nb⟩ ⟨hz, hsp.mono fun i hi e => by rw [← hz i hi]; exact e⟩
theorem RmX.ouk {w w1 : World} {b : Nat} {E : En} {m : Mc} {q : Sl} {O : Nat → Nat} {s' : Slc} {out' : List Int} {K : World → Prop} (p : PartR N0 w b E m q O w1 4 q.so s') (ho : Own w1 2 1 s' (Is .i64 out'))
    (hK : ∀ O' w', RmX N0 w' b E { m with out := out' } { q with so := s' } O' → Sp O w O' w' → K w') : stP ((⟨b, 0, none⟩ : Addr).add 9) (slW s') w1 K := by
  have h := p.h.rel (O' := relab O w.heap.size 4) fun k hk => relab_lt hk
  have hl' := p.lab' p.h.ou.lt
  have hz : ∀ k, k < w.heap.size → relab O w.heap.size 4 k = O k := fun k hk => relab_lt hk
  generalize relab O w.heap.size 4 = O' at *
  have hc1 : Chg (fun k => O' k = 4) w w1 := p.chg.mono fun k _ hk => h.oo k hk.symm
  refine stB (o := 9) (h.blk.chg hc1 (by rw [h.ob]; decide)) (show 9 < 16 by decide) fun w' hc2 hb2 hs2 => ?_
  have hc2 : Chg (fun k => O' k = 1) w1 w' := Chg.mono hc2 fun k _ hk => by have hk : some k = some b := hk; cases hk; exact h.ob
  have hsp : Chg (fun k => O' k ≠ 0) w w' := (hc1.mono fun i hi e => by rw [e]; decide).step hc2 fun i hi e => by rw [e]; decide
  refine hK O' w' ⟨hb2, h.co.af (h.af hsp), h.ar.af (h.af hsp), h.re.af (h.af hsp), (h.st.chg hc1 (fun k hk => by rw [h.os k hk]; decide)).chg hc2 (fun k hk => by rw [h.os k hk]; decide), (h.lo.chg hc1 (fun k hk => by rw [h.ol k hk]; decide)).chg hc2 (fun k hk => by rw [h.ol k hk]; decide), ho.chg hc2 (fun k hk => by rw [hl' k hk]; decide), (h.pu.chg hc1 (fun k hk => by rw [h.op k hk]; decide)).chg hc2 (fun k hk => by rw [h.op k hk]; decide), h.ob, h.os, h.ol, hl', h.op, Nat.le_trans h.nz hsp.size, h.nb⟩ ⟨hz, hsp.mono fun i hi e => by rw [← hz i hi]; exact e⟩
theorem RmX.puk {w w1 : World} {b : Nat} {E : En} {m : Mc} {q : Sl} {O : Nat → Nat} {s' : Slc} {pu' : List (Int × Int)} {K : World → Prop} (p : PartR N0 w b E m q O w1 5 q.sp s') (ho : Own w1 71 2 s' (flat pu'))
    (hK : ∀ O' w', RmX N0 w' b E { m with pu := pu' } { q with sp := s' } O' → Sp O w O' w' → K w') : stP ((⟨b, 0, none⟩ : Addr).add 10) (slW s') w1 K := by
  have h := p.h.rel (O' := relab O w.heap.size 5) fun k hk => relab_lt hk
  have hl' := p.lab' p.h.pu.lt
  have hz : ∀ k, k < w.heap.size → relab O w.heap.size 5 k = O k := fun k hk => relab_lt hk
  generalize relab O w.heap.size 5 = O' at *
  have hc1 : Chg (fun k => O' k = 5) w w1 := p.chg.mono fun k _ hk => h.op k hk.symm
  refine stB (o := 10) (h.blk.chg hc1 (by rw [h.ob]; decide)) (show 10 < 16 by decide) fun w' hc2 hb2 hs2 => ?_
  have hc2 : Chg (fun k => O' k = 1) w1 w' := Chg.mono hc2 fun k _ hk => by have hk : some k = some b := hk; cases hk; exact h.ob
  have hsp : Chg (fun k => O' k ≠ 0) w w' := (hc1.mono fun i hi e => by rw [e]; decide).step hc2 fun i hi e => by rw [e]; decide
  refine hK O' w' ⟨hb2, h.co.af (h.af hsp), h.ar.af (h.af hsp), h.re.af (h.af hsp), (h.st.chg hc1 (fun k hk => by rw [h.os k hk]; decide)).chg hc2 (fun k hk => by rw [h.os k hk]; decide), (h.lo.chg hc1 (fun k hk => by rw [h.ol k hk]; decide)).chg hc2 (fun k hk => by rw [h.ol k hk]; decide), (h.ou.chg hc1 (fun k hk => by rw [h.oo k hk]; decide)).chg hc2 (fun k hk => by rw [h.oo k hk]; decide), ho.chg hc2 (fun k hk => by rw [hl' k hk]; decide), h.ob, h.os, h.ol, h.oo, hl', Nat.le_trans h.nz hsp.size, h.nb⟩ ⟨hz, hsp.mono fun i hi e => by rw [← hz i hi]; exact e⟩
theorem RmX.loa {w w1 : World} {b : Nat} {E : En} {m : Mc} {q : Sl} {O : Nat → Nat} {lo' : List Int} (h : RmX N0 w b E m q O) (ho : Own w1 2 1 q.sl (Is .i64 lo')) (hc : Ch [blkOf q.sl] w w1) : RmX N0 w1 b E { m with lo := lo' } q O ∧ Sp O w O w1 := by
  have hc1 : Chg (fun k => O k = 3) w w1 := Chg.mono hc fun k _ hk => h.ol k (Eq.symm (show some k = blkOf q.sl from hk))
  have hsp : Chg (fun k => O k ≠ 0) w w1 := hc1.mono fun i hi e => by rw [e]; decide
  exact ⟨⟨h.blk.chg hc1 (by rw [h.ob]; decide), h.co.af (h.af hsp), h.ar.af (h.af hsp), h.re.af (h.af hsp), h.st.chg hc1 (fun k hk => by rw [h.os k hk]; decide), ho, h.ou.chg hc1 (fun k hk => by rw [h.oo k hk]; decide), h.pu.chg hc1 (fun k hk => by rw [h.op k hk]; decide), h.ob, h.os, h.ol, h.oo, h.op, Nat.le_trans h.nz hsp.size, h.nb⟩, ⟨fun _ _ => rfl, hsp⟩⟩
theorem RmX.pua {w w1 : World} {b : Nat} {E : En} {m : Mc} {q : Sl} {O : Nat → Nat} {pu' : List (Int × Int)} (h : RmX N0 w b E m q O) (ho : Own w1 71 2 q.sp (flat pu')) (hc : Ch [blkOf q.sp] w w1) : RmX N0 w1 b E { m with pu := pu' } q O ∧ Sp O w O w1 := by
  have hc1 : Chg (fun k => O k = 5) w w1 := Chg.mono hc fun k _ hk => h.op k (Eq.symm (show some k = blkOf q.sp from hk))
  have hsp : Chg (fun k => O k ≠ 0) w w1 := hc1.mono fun i hi e => by rw [e]; decide
  exact ⟨⟨h.blk.chg hc1 (by rw [h.ob]; decide), h.co.af (h.af hsp), h.ar.af (h.af hsp), h.re.af (h.af hsp), h.st.chg hc1 (fun k hk => by rw [h.os k hk]; decide), h.lo.chg hc1 (fun k hk => by rw [h.ol k hk]; decide), h.ou.chg hc1 (fun k hk => by rw [h.oo k hk]; decide), ho, h.ob, h.os, h.ol, h.oo, h.op, Nat.le_trans h.nz hsp.size, h.nb⟩, ⟨fun _ _ => rfl, hsp⟩⟩

set_option maxRecDepth 4000 in
theorem take_ok {w : World} {b : Nat} {E : En} {m : Mc} {q : Sl} {O : Nat → Nat} {v : Int} {r : List Int} {K : Int → World → Prop} (h : RmX N0 w b E m q O) (hs : m.st = v :: r) (hl : r.length ≤ 1000) (hK : ∀ s' O' w', RmX N0 w' b E { m with st := r } { q with ss := s' } O' → Sp O w O' w' → K v w') : c_preluderef05_Machine_take (some ⟨b, 0, none⟩) w K := by
  refine sim_preluderef05_Machine_take ?_
  unfold sh_preluderef05_Machine_take
  have hst := h.st
  rw [hs, List.reverse_cons] at hst
  have hlen : q.ss.l = r.length + 1 := by have := hst.rd.len; simpa using this
  have hcap := hst.rd.cap
  simp only [nnP_some]
  refine ldS_b (s := q.ss) h.blk rfl ?_
  have hw : IntKind.i64.wrap ((q.ss.l : Int) - 1) = (r.length : Int) := by rw [wrap_i64 (by omega)]; omega
  rw [hw]
  refine iteB_dec (fun h => by omega) fun _ => ?_
  refine ldS_b (s := q.ss) h.blk rfl ?_
  refine hst.rd.get (k := .i64) (ds := r.reverse ++ [v]) (v := v) (by omega) (by rw [Int.toNat_natCast]; simp) ?_
  refine ldS_b (s := q.ss) h.blk rfl ?_
  unfold slP
  simp only [Option.getD_none, Option.getD_some, Int.toNat_zero, Nat.zero_mul, Nat.sub_zero, Int.toNat_natCast]
  refine ⟨by omega, by omega, by omega, ?_⟩
  have e : (if q.ss.c = 0 then q.ss.a else q.ss.a.map (·.add 0)) = q.ss.a := by
    split
    · rfl
    · cases q.ss.a <;> rfl
  rw [e]
  have hn : q.ss.a ≠ none := fun hn => by have := (h.st.none0 hn).1; omega
  have ho : Own w 2 1 ⟨q.ss.a, r.length, q.ss.c⟩ (Is .i64 r.reverse) := by
    have := hst.pre' (r := ⟨q.ss.a, r.length, q.ss.c⟩) rfl rfl (by simp only []; omega) hn
    have e2 : (Is .i64 (r.reverse ++ [v])).take (r.length * 1) = Is .i64 r.reverse := by
      unfold Is
      rw [List.map_append, List.take_append_of_le_length (by simp), List.take_of_length_le (by simp)]
    rw [← e2]; exact this
  refine RmX.stk (s' := ⟨q.ss.a, r.length, q.ss.c⟩) (st' := r) ⟨h, Chg.refl _ _, h.os, fun k hk => .inl hk⟩ ho fun O' w' hm hsp => hK _ O' w' hm hsp
set_option maxRecDepth 4000 in
theorem lay_ok {w : World} {b : Nat} {E : En} {m : Mc} {q : Sl} {O : Nat → Nat} {v : Int} {K : World → Prop} (h : RmX N0 w b E m q O) (hl : m.st.length ≤ 1000) (hK : ∀ s' O' w', RmX N0 w' b E { m with st := v :: m.st } { q with ss := s' } O' → Sp O w O' w' → K w') : c_preluderef05_Machine_lay (some ⟨b, 0, none⟩) v w K := by
  refine sim_preluderef05_Machine_lay ?_
  unfold sh_preluderef05_Machine_lay
  simp only [nnP_some]
  refine ldS_b (s := q.ss) h.blk rfl ?_
  have hlen : q.ss.l = m.st.length := by have := h.st.rd.len; simpa using this
  refine apB TI6 (cells := #[.int .i64 v]) rfl (by simp; rfl) h.st (by omega) (by omega) fun s' w1 ho hl' hg => ?_
  refine RmX.stk (st' := v :: m.st) ⟨h, hg.chg, h.os, hg.blk⟩ (by
    have e : Is .i64 (v :: m.st).reverse = Is .i64 m.st.reverse ++ [.int .i64 v] := by simp [Is]
    rw [e]; exact ho) fun O' w' hm hsp => hK _ O' w' hm hsp
theorem RdQ.cel' {w : World} {s : Slc} {rs : List Cel} (h : RdQ w 2 s (flatR rs)) {i : Int} {c : Cel} (h0 : 0 ≤ i) (hc : rs[i.toNat]? = some c) {K : Addr → Prop} (hK : ∀ ad, w.cell? ad = some (.bool c.1) → w.cell? (ad.add 1) = some (.int .i64 c.2) → K ad) : idxP s.a s.l i 2 K := by
  obtain ⟨e1, e2⟩ := flatR_at _ _ _ hc
  obtain ⟨ad, ha, c1⟩ := h.at_ _ _ e1
  obtain ⟨ad', ha', c2⟩ := h.at_ _ _ e2
  rw [ha] at ha'; cases ha'
  have hl := h.len
  rw [flatR_length] at hl
  have hi := (List.getElem?_eq_some_iff.1 hc).1
  exact ⟨h0, by omega, ad, ha, hK _ c1 (by rw [Deep.add_add]; exact c2)⟩
theorem value_ok {w : World} {b : Nat} {E : En} {m : Mc} {q : Sl} {O : Nat → Nat} {i : Int} {K : Int → World → Prop} (h : RmX N0 w b E m q O) (h0 : 0 ≤ i) (h1 : i < (E.rs.length : Int)) (hK : ∀ w', Ch [] w w' → K (rv E i) w') : c_preluderef05_Machine_value (some ⟨b, 0, none⟩) i w K := by
  refine sim_preluderef05_Machine_value ?_
  unfold sh_preluderef05_Machine_value
  simp only [nnP_some]
  have hc : E.rs[i.toNat]? = some E.rs[i.toNat] := List.getElem?_eq_getElem (by omega)
  unfold rv at hK
  rw [hc] at hK
  dsimp only at hK
  generalize E.rs[i.toNat] = c at *
  refine ldS_b (s := q.sr) h.blk rfl ?_
  refine RdQ.cel' h.re.now h0 hc fun ad c1 c2 => ldB_of c1 (ldI_of c2 ?_)
  refine newB fun k2 w2 hc2 hb2 hk2 hs2 => ?_
  refine stB (o := 0) hb2 (by simp) fun w3 hc3 hb3 hs3 => stB hb3 (by simp) fun w4 hc4 hb4 hs4 => ?_
  replace hb4 : Blk w4 k2 #[.bool c.1, .int .i64 c.2] _ := hb4
  have hc04 : Ch [] w w4 := hc2.trN (hc3.tr hc4) (by omega)
  refine ldB_b (o := 0) (s := c.1) hb4 rfl ?_
  cases hb : c.1 with
  | false => rw [hb] at hK; exact hK w4 hc04
  | true =>
    rw [hb] at hK
    exact iteB_neg rfl (ldI_b hb4 rfl (hK w4 hc04))
theorem rput_ok {w : World} {b : Nat} {E : En} {m : Mc} {q : Sl} {O : Nat → Nat} {i : Int} {p : Int × Int} {K : Int → World → Prop} (h : RmX N0 w b E m q O) (hK : ∀ w', RmX N0 w' b E (putAt m i p).1 q O → Sp O w O w' → K (putAt m i p).2 w') : c_preluderef05_Machine_put (some ⟨b, 0, none⟩) i p.1 p.2 w K := by
  refine sim_preluderef05_Machine_put ?_
  unfold sh_preluderef05_Machine_put
  simp only [nnP_some]
  have hl : q.sp.l = m.pu.length := by have := h.pu.len; rw [flat_length] at this; omega
  unfold putAt at hK
  refine iteB_dec (fun h0 => by rw [if_pos (.inl h0)] at hK; exact hK w h (Sp.refl _ _)) fun h0 => ?_
  refine ldS_b (s := q.sp) h.blk rfl ?_
  refine iteB_dec (fun h2 => by rw [if_pos (.inr (by omega))] at hK; exact hK w h (Sp.refl _ _)) fun h2 => ?_
  rw [if_neg (by omega)] at hK
  refine ldS_b (s := q.sp) h.blk rfl ?_
  refine h.pu.st2' (x := i.toNat) (by omega) (by omega) fun w' ho hc hz => ?_
  rw [flat_set] at ho
  obtain ⟨a1, a2⟩ := h.pua ho hc
  exact hK w' a1 a2
set_option maxRecDepth 4000 in
/-- The place has been counted up; a fault counts it down. -/
theorem fails_ok {w : World} {b : Nat} {E : En} {m : Mc} {q : Sl} {O : Nat → Nat} {e u : Int} {p : Nat} {K : World → Prop} (h : RmX N0 w b E m q O) (hpc : m.pc = p + 1) (hp : p ≤ 100000) (hd : 0 ≤ E.d ∧ E.d ≤ 16) (hcc : 0 ≤ E.c ∧ E.c ≤ 16) (hK : ∀ q' O' w', RmX N0 w' b E (fault E { m with pc := p } e u) q' O' → Sp O w O' w' → K w') : c_preluderef05_Machine_fails (some ⟨b, 0, none⟩) e u w K := by
  refine sim_preluderef05_Machine_fails ?_
  unfold sh_preluderef05_Machine_fails
  simp only [nnP_some]
  refine RmX.put (m' := { m with cd := e }) h (by decide) rfl rfl rfl rfl rfl fun w1 h1 p1 => ?_
  refine RmX.put (m' := { m with cd := e, us := u }) h1 (by decide) rfl rfl rfl rfl rfl fun w2 h2 p2 => ?_
  refine RmX.put (m' := { m with cd := e, us := u, dn := true }) h2 (by decide) rfl rfl rfl rfl rfl fun w3 h3 p3 => ?_
  refine ldI_b (n := (m.pc : Int)) h3.blk rfl ?_
  rw [hpc, wrap_i64 (by omega), show ((p + 1 : Nat) : Int) - 1 = (p : Int) by omega]
  refine RmX.put (m' := { m with cd := e, us := u, dn := true, pc := p }) h3 (by decide) rfl rfl rfl rfl rfl fun w3' h3' p3' => ?_
  refine RmX.stk (s' := ⟨none, 0, 0⟩) (st' := []) ⟨h3', Chg.refl _ _, h3'.os, fun k hk => by cases hk⟩ (Own.nil _ _ _) fun O4 w4 h4 p4 => ?_
  refine RmX.ouk (s' := ⟨none, 0, 0⟩) (out' := []) ⟨h4, Chg.refl _ _, h4.oo, fun k hk => by cases hk⟩ (Own.nil _ _ _) fun O5 w5 h5 p5 => ?_
  refine ldI_b (n := E.d) h5.blk rfl ?_
  rw [show E.d = ((E.d.toNat : Nat) : Int) by omega]
  refine mkP_intro TI6 (by omega) (by omega) fun w6 (hc6 : Ch [] w5 w6) hb6 hs6 => ?_
  rw [madeI] at hb6
  have ho6 := Own.new hb6 (by simp [maxLen]; omega)
  simp only [List.size_toArray, Is_length, List.length_replicate, List.toList_toArray] at ho6
  refine RmX.lok (s' := ⟨some ⟨w5.heap.size, 0, none⟩, E.d.toNat, E.d.toNat⟩) (lo' := zs E.d) ⟨h5, Chg.mono hc6 fun _ _ h => h.elim, h5.ol, fun k hk => by cases hk; exact .inr (Nat.le_refl _)⟩ ho6 fun O7 w7 h7 p7 => ?_
  refine ldI_b (n := E.c) h7.blk rfl ?_
  rw [show E.c = ((E.c.toNat : Nat) : Int) by omega]
  refine mkP_intro TPu (by omega) (by omega) fun w8 (hc8 : Ch [] w7 w8) hb8 hs8 => ?_
  have ho8 : Own w8 71 2 ⟨some ⟨w7.heap.size, 0, none⟩, E.c.toNat, E.c.toNat⟩ (flat (zp E.c)) := by
    refine ⟨by rw [flat_length]; simp [zp], .inr ⟨_, E.c.toNat, _, rfl, Nat.zero_le _, hb8, Nat.le_refl _, by unfold maxLen; omega, by simp [madeCells], ?_⟩⟩
    rw [made2]
    unfold zp
    rw [flat_rep, List.take_of_length_le (by simp)]
  refine RmX.puk (s' := ⟨some ⟨w7.heap.size, 0, none⟩, E.c.toNat, E.c.toNat⟩) (pu' := zp E.c) ⟨h7, Chg.mono hc8 fun _ _ h => h.elim, h7.op, fun k hk => by cases hk; exact .inr (Nat.le_refl _)⟩ ho8 fun O9 w9 h9 p9 => ?_
  exact hK _ O9 w9 h9 ((((((p1.tr p2).tr p3).tr p3').tr p4).tr p5).tr (p7.tr p9))
end Go.Proofs.Ytlkgnfpjmafdkaa
