/- RepB: batches and libraries that came in. -/
import Derived.Test.YtlnhecbgjjglfaaDoorTxC
import Derived.Test.YtlnhecbgjjglfaaDoorKeys
import Derived.Test.YtlnhecbgjjglfaaDoorGt
set_option linter.unusedVariables false
set_option linter.unusedSimpArgs false
namespace Go.Pl
open Go Go.Sh Go.RowKit
/-- A library, as far as it is looked at here: the names' and programs' sizes, the programs' limits. -/
structure LpM where
  nm : Nat
  a : Int
  b : Int
  c : Int
  d : Int
  n : Nat
structure LpAt (w : World) (ad : Addr) (x : LpM) (s : ByteArray) (cs : Slc) : Prop where
  c0 : w.cell? ad = some (.string s)
  c1 : w.cell? (ad.add 1) = some (.int .i64 x.a)
  c2 : w.cell? (ad.add 2) = some (.int .i64 x.b)
  c3 : w.cell? (ad.add 3) = some (.int .i64 x.c)
  c4 : w.cell? (ad.add 4) = some (.int .i64 x.d)
  c5 : w.cell? (ad.add 5) = some (.slice cs.a cs.l cs.c)
  sz : s.size = x.nm
  ln : cs.l = x.n
theorem LpAt.ch0 {w w' : World} {ad : Addr} {x : LpM} {s : ByteArray} {cs : Slc} (h : LpAt w ad x s cs) (hc : Ch [] w w') : LpAt w' ad x s cs := by
  have k : ∀ {a : Addr} {v : Value}, w.cell? a = some v → w'.cell? a = some v := fun hv => cell_chg (show Chg Nil w w' from hc) hv fun h => h
  exact ⟨k h.c0, k h.c1, k h.c2, k h.c3, k h.c4, k h.c5, h.sz, h.ln⟩
structure RdS (w : World) (s : Slc) (ps : List LpM) : Prop where
  len : s.l = ps.length
  at_ : ∀ i x, ps[i]? = some x → ∃ ad nm cs, s.a = some ad ∧ LpAt w (ad.add (i * 6)) x nm cs
theorem RdS.ch0 {w w' : World} {s : Slc} {ps : List LpM} (h : RdS w s ps) (hc : Ch [] w w') : RdS w' s ps := ⟨h.len, fun i x hx => by
  obtain ⟨ad, nm, cs, h1, h2⟩ := h.at_ i x hx
  exact ⟨ad, nm, cs, h1, h2.ch0 hc⟩⟩
theorem RdS.at' {w : World} {s : Slc} {ps : List LpM} (h : RdS w s ps) {i : Nat} (hi : i < ps.length) : ∃ ad nm cs, LpAt w ad ps[i] nm cs ∧ ∀ (i' : Int) (K : Addr → Prop), i' = (i : Int) → K ad → idxP s.a s.l i' 6 K := by
  obtain ⟨ad, nm, cs, h1, h2⟩ := h.at_ i ps[i] (by simp)
  refine ⟨_, nm, cs, h2, fun i' K hi' hK => ?_⟩
  subst hi'
  exact ⟨by omega, by rw [h.len]; omega, ad, h1, by rw [Int.toNat_natCast]; exact hK⟩
end Go.Pl
namespace Go.Proofs.YtlnhecbgjjglfaaDoor
open Go Go.Sh Go.Pl Go.RowKit Go.Gt
abbrev keysG : G := .sl 16 (.st (.pair (.int .i64) (.pair (.int .i64) .unit)))
abbrev intsG : G := .sl 8 (.int .i64)
abbrev txG : G := .st (.pair (.int .i64) (.pair intsG (.pair keysG (.pair keysG .unit))))
abbrev batG : G := .sl 80 txG
abbrev prgG : G := .st (.pair (.int .i64) (.pair (.int .i64) (.pair (.int .i64) (.pair (.int .i64) (.pair keysG .unit)))))
abbrev libG : G := .sl 72 (.st (.pair .str (.pair prgG .unit)))
def kysL (l : List (Int × Int × Unit)) : List (Int × Int) := l.map fun x => (x.1, x.2.1)
theorem kysL_at {l : List (Int × Int × Unit)} {i : Nat} {x : Int × Int} (h : (kysL l)[i]? = some x) : ∃ u, l[i]? = some (x.1, x.2, u) := by
  unfold kysL at h
  rw [List.getElem?_map] at h
  cases hm : l[i]? with
  | none => rw [hm] at h; cases h
  | some m => rw [hm] at h; cases h; exact ⟨m.2.2, rfl⟩
theorem kysL_len (l : List (Int × Int × Unit)) : (kysL l).length = l.length := by simp [kysL]
def kysOf (ms : Mo keysG) : List (Int × Int) := kysL ms
theorem rep_keys {R : Nat} {w : World} {s : Slc} {ms : Mo keysG} (h : Gt.Rep R w keysG [.slice s.a s.l s.c] ms) : RdC w s (kysOf ms) ∧ (s.a = none → s.l = 0 ∧ s.c = 0) ∧ s.c * 16 ≤ R := by
  obtain ⟨s', he, h1, h2, h3, h4, h5⟩ := h
  have he' : s = s' := by
    cases s; cases s'; simpa using he
  subst he'
  refine ⟨⟨by rw [h1]; exact (kysL_len ms).symm, h2, fun i x hx => ?_⟩, h3, h4⟩
  obtain ⟨u, hm⟩ := kysL_at hx
  obtain ⟨ad, es, g1, g2, g3, g4⟩ := h5 i (x.1, x.2, u) hm
  obtain ⟨c1, c2, rfl, ⟨rfl, q1⟩, c3, c4, rfl, ⟨rfl, q2⟩, rfl⟩ := g4
  have e0 := g3 0 (by decide)
  have e1 := g3 1 (by decide)
  exact ⟨ad, g1, (by simpa using e0 : w.cell? (ad.add (i * (G.sz (.st (.pair (.int .i64) (.pair (.int .i64) .unit)))))) = _), (by simpa using e1 : w.cell? ((ad.add (i * (G.sz (.st (.pair (.int .i64) (.pair (.int .i64) .unit)))))).add 1) = _)⟩
def intsOf (ms : Mo intsG) : List Int := ms
theorem rep_ints {R : Nat} {w : World} {s : Slc} {ms : Mo intsG} (h : Gt.Rep R w intsG [.slice s.a s.l s.c] ms) : Rd w s (Is .i64 (intsOf ms)) ∧ (s.a = none → s.l = 0 ∧ s.c = 0) ∧ s.c * 8 ≤ R := by
  obtain ⟨s', he, h1, h2, h3, h4, h5⟩ := h
  have he' : s = s' := by
    cases s; cases s'; simpa using he
  subst he'
  refine ⟨⟨by rw [Is_length]; exact h1, h2, fun i hi => ?_⟩, h3, h4⟩
  rw [Is_length] at hi
  have hx : (intsOf ms)[i]? = some (intsOf ms)[i] := by simp
  obtain ⟨ad, es, g1, g2, g3, g4⟩ := h5 i (intsOf ms)[i] hx
  obtain ⟨rfl, q⟩ := g4
  have e0 := g3 0 (by decide)
  refine ⟨ad, g1, ?_⟩
  rw [Is_at _ _ hi]
  have e : w.cell? (ad.add i) = some (.int .i64 (intsOf ms)[i]) := by
    have := e0
    rw [add_zero', show i * (G.int IntKind.i64).sz = i from Nat.mul_one i] at this
    exact this
  exact e
def txL (l : List (Int × Mo intsG × Mo keysG × Mo keysG × Unit)) : List Txm := l.map fun m => ⟨m.1, intsOf m.2.1, kysOf m.2.2.1, kysOf m.2.2.2.1⟩
def batOf (ms : Mo batG) : List Txm := txL ms
theorem txL_at {l : List (Int × Mo intsG × Mo keysG × Mo keysG × Unit)} {i : Nat} {x : Txm} (h : (txL l)[i]? = some x) : ∃ p a r q, l[i]? = some (p, a, r, q, ()) ∧ x = ⟨p, intsOf a, kysOf r, kysOf q⟩ := by
  unfold txL at h
  rw [List.getElem?_map] at h
  cases hm : l[i]? with
  | none => rw [hm] at h; cases h
  | some m => rw [hm] at h; cases h; exact ⟨m.1, m.2.1, m.2.2.1, m.2.2.2.1, rfl, rfl⟩
theorem txL_len (l : List (Int × Mo intsG × Mo keysG × Mo keysG × Unit)) : (txL l).length = l.length := by simp [txL]
def Big (xs : List Txm) : Prop := ∀ x ∈ xs, x.args.length ≤ 140737488351232 ∧ x.reads.length ≤ 140737488351232 ∧ x.writes.length ≤ 140737488351232
theorem rep_bat {R : Nat} {w : World} {s : Slc} {ms : Mo batG} (hR : R ≤ 140737488351232) (h : Gt.Rep R w batG [.slice s.a s.l s.c] ms) : RdB w s (batOf ms) ∧ Big (batOf ms) ∧ (s.a = none → s.l = 0 ∧ s.c = 0) ∧ s.c * 80 ≤ R := by
  obtain ⟨s', he, h1, h2, h3, h4, h5⟩ := h
  have he' : s = s' := by
    cases s; cases s'; simpa using he
  subst he'
  have key : ∀ (i : Nat) (x : Txm), (batOf ms)[i]? = some x → ∃ ad ag rs ws, s.a = some ad ∧ TxAt w (ad.add (i * 4)) x ag rs ws ∧ x.args.length ≤ 140737488351232 ∧ x.reads.length ≤ 140737488351232 ∧ x.writes.length ≤ 140737488351232 := fun i x hx => by
    obtain ⟨p, a, r, q, hm, rfl⟩ := txL_at hx
    obtain ⟨ad, es, g1, g2, g3, g4⟩ := h5 i (p, a, r, q, ()) hm
    obtain ⟨d1, d2, rfl, ⟨rfl, w1⟩, d3, d4, rfl, ha, d5, d6, rfl, hr, d7, d8, rfl, hq, rfl⟩ := g4
    have ha' := ha
    have hr' := hr
    have hq' := hq
    obtain ⟨ag, rfl, _⟩ := ha
    obtain ⟨rs, rfl, _⟩ := hr
    obtain ⟨ws, rfl, _⟩ := hq
    obtain ⟨a1, a2, a3⟩ := rep_ints ha'
    obtain ⟨r1, r2, r3⟩ := rep_keys hr'
    obtain ⟨q1, q2, q3⟩ := rep_keys hq'
    have e0 := g3 0 (by decide)
    have e1 := g3 1 (by decide)
    have e2 := g3 2 (by decide)
    have e3 := g3 3 (by decide)
    have l1 := a1.len
    have l2 := r1.len
    have l3 := q1.len
    have c1 := a1.cap
    have c2 := r1.cap
    have c3 := q1.cap
    rw [Is_length] at l1
    dsimp only at l1 l2 l3
    exact ⟨ad, ag, rs, ws, g1, ⟨e0, e1, e2, e3, a1, r1, q1, a2, r2, q2⟩, by show (intsOf a).length ≤ _; omega, by show (kysOf r).length ≤ _; omega, by show (kysOf q).length ≤ _; omega⟩
  refine ⟨⟨by rw [h1]; exact (txL_len ms).symm, h2, fun i x hx => ?_⟩, fun x hx => ?_, h3, h4⟩
  · obtain ⟨ad, ag, rs, ws, g1, g2, _⟩ := key i x hx
    exact ⟨ad, ag, rs, ws, g1, g2⟩
  · obtain ⟨i, hi⟩ := List.getElem?_of_mem hx
    obtain ⟨ad, ag, rs, ws, _, _, g⟩ := key i x hi
    exact g
def lpL (l : List (ByteArray × (Int × Int × Int × Int × Mo keysG × Unit) × Unit)) : List LpM := l.map fun m => ⟨m.1.size, m.2.1.1, m.2.1.2.1, m.2.1.2.2.1, m.2.1.2.2.2.1, (kysOf m.2.1.2.2.2.2.1).length⟩
def lpOf (ms : Mo libG) : List LpM := lpL ms
theorem lpL_at {l : List (ByteArray × (Int × Int × Int × Int × Mo keysG × Unit) × Unit)} {i : Nat} {x : LpM} (h : (lpL l)[i]? = some x) : ∃ nm a b c d mi, l[i]? = some (nm, (a, b, c, d, mi, ()), ()) ∧ x = ⟨nm.size, a, b, c, d, (kysOf mi).length⟩ := by
  unfold lpL at h
  rw [List.getElem?_map] at h
  cases hm : l[i]? with
  | none => rw [hm] at h; cases h
  | some m =>
    rw [hm] at h
    cases h
    exact ⟨m.1, m.2.1.1, m.2.1.2.1, m.2.1.2.2.1, m.2.1.2.2.2.1, m.2.1.2.2.2.2.1, rfl, rfl⟩
theorem lpL_len (l : List (ByteArray × (Int × Int × Int × Int × Mo keysG × Unit) × Unit)) : (lpL l).length = l.length := by simp [lpL]
theorem rep_lp {R : Nat} {w : World} {s : Slc} {ms : Mo libG} (hR : R ≤ 140737488351232) (h : Gt.Rep R w libG [.slice s.a s.l s.c] ms) : RdS w s (lpOf ms) ∧ (∀ x ∈ lpOf ms, x.nm ≤ 140737488351232 ∧ x.n ≤ 140737488351232) ∧ s.l ≤ 140737488351232 := by
  obtain ⟨s', he, h1, h2, h3, h4, h5⟩ := h
  have he' : s = s' := by
    cases s; cases s'; simpa using he
  subst he'
  have key : ∀ (i : Nat) (x : LpM), (lpOf ms)[i]? = some x → ∃ ad nm cs, s.a = some ad ∧ LpAt w (ad.add (i * 6)) x nm cs ∧ x.nm ≤ 140737488351232 ∧ x.n ≤ 140737488351232 := fun i x hx => by
    obtain ⟨nm, a, b, c, d, mi, hm, rfl⟩ := lpL_at hx
    obtain ⟨ad, es, g1, g2, g3, g4⟩ := h5 i (nm, (a, b, c, d, mi, ()), ()) hm
    obtain ⟨c1, c2, rfl, ⟨rfl, hz⟩, c3, c4, rfl, ⟨d1, d2, rfl, ⟨rfl, w1⟩, d3, d4, rfl, ⟨rfl, w2⟩, d5, d6, rfl, ⟨rfl, w3⟩, d7, d8, rfl, ⟨rfl, w4⟩, d9, d10, rfl, hins, rfl⟩, rfl⟩ := g4
    have hins' := hins
    obtain ⟨cs, rfl, _⟩ := hins
    obtain ⟨hrd, hnil, hcap⟩ := rep_keys hins'
    have e0 := g3 0 (by decide)
    have e1 := g3 1 (by decide)
    have e2 := g3 2 (by decide)
    have e3 := g3 3 (by decide)
    have e4 := g3 4 (by decide)
    have e5 := g3 5 (by decide)
    have lr := hrd.len
    have cr := hrd.cap
    dsimp only at lr hz
    exact ⟨ad, nm, cs, g1, ⟨e0, e1, e2, e3, e4, e5, rfl, lr⟩, by show nm.size ≤ _; omega, by show (kysOf mi).length ≤ _; omega⟩
  refine ⟨⟨by rw [h1]; exact (lpL_len ms).symm, fun i x hx => ?_⟩, fun x hx => ?_, by omega⟩
  · obtain ⟨ad, nm, cs, g1, g2, _⟩ := key i x hx
    exact ⟨ad, nm, cs, g1, g2⟩
  · obtain ⟨i, hi⟩ := List.getElem?_of_mem hx
    obtain ⟨ad, nm, cs, _, _, g⟩ := key i x hi
    exact g
end Go.Proofs.YtlnhecbgjjglfaaDoor
