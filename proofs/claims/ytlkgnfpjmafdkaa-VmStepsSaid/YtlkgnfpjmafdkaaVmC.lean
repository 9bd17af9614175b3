/- VmC: a call that came in. -/
import Derived.Test.YtlkgnfpjmafdkaaVmR
set_option linter.unusedVariables false
set_option linter.unusedSimpArgs false
namespace Go.Proofs.Ytlkgnfpjmafdkaa
open Go Go.Sh Go.Pl Go.RowKit Go.Lang Go.Vm Go.Gt
abbrev insG : G := .sl 16 (.st (.pair (.int .i64) (.pair (.int .i64) .unit)))
abbrev intsG : G := .sl 8 (.int .i64)
abbrev celG : G := .sl 16 (.st (.pair .bool (.pair (.int .i64) .unit)))
/-- A list of instructions that came in. -/
def codeL (l : List (Int × Int × Unit)) : List (Int × Int) := l.map fun x => (x.1, x.2.1)
def code (ms : Mo insG) : List (Int × Int) := codeL ms
theorem codeL_at {l : List (Int × Int × Unit)} {i : Nat} {x : Int × Int} (h : (codeL l)[i]? = some x) : ∃ u, l[i]? = some (x.1, x.2, u) := by
  unfold codeL at h
  rw [List.getElem?_map] at h
  cases hm : l[i]? with
  | none => rw [hm] at h; cases h
  | some m => rw [hm] at h; cases h; exact ⟨m.2.2, rfl⟩
theorem codeL_len (l : List (Int × Int × Unit)) : (codeL l).length = l.length := by simp [codeL]
theorem rep_code {R : Nat} {w : World} {s : Slc} {ms : Mo insG} (h : Gt.Rep R w insG [.slice s.a s.l s.c] ms) : RdC w s (code ms) ∧ (∀ x ∈ code ms, Vm.I64 x.1 ∧ Vm.I64 x.2) ∧ (s.a = none → s.l = 0 ∧ s.c = 0) ∧ s.c * 16 ≤ R := by
  obtain ⟨s', he, h1, h2, h3, h4, h5⟩ := h
  have he' : s = s' := by
    cases s; cases s'; simpa using he
  subst he'
  have key : ∀ (i : Nat) (x : Int × Int), (code ms)[i]? = some x → ∃ ad, s.a = some ad ∧ w.cell? (ad.add (i * 2)) = some (.int .i64 x.1) ∧ w.cell? ((ad.add (i * 2)).add 1) = some (.int .i64 x.2) ∧ (Lit.int .i64 x.1).wf = true ∧ (Lit.int .i64 x.2).wf = true := fun i x hx => by
    obtain ⟨u, hm⟩ := codeL_at hx
    obtain ⟨ad, es, g1, g2, g3, g4⟩ := h5 i (x.1, x.2, u) hm
    obtain ⟨c1, c2, rfl, ⟨rfl, q1⟩, c3, c4, rfl, ⟨rfl, q2⟩, rfl⟩ := g4
    have e0 := g3 0 (by decide)
    have e1 := g3 1 (by decide)
    exact ⟨ad, g1, (by simpa using e0 : w.cell? (ad.add (i * (G.sz (.st (.pair (.int .i64) (.pair (.int .i64) .unit)))))) = _), (by simpa using e1 : w.cell? ((ad.add (i * (G.sz (.st (.pair (.int .i64) (.pair (.int .i64) .unit)))))).add 1) = _), q1, q2⟩
  refine ⟨⟨by rw [h1]; exact (codeL_len ms).symm, h2, fun i x hx => ?_⟩, fun x hx => ?_, h3, h4⟩
  · obtain ⟨ad, g1, g2, g3, _⟩ := key i x hx
    exact ⟨ad, g1, g2, g3⟩
  · obtain ⟨i, hi⟩ := List.getElem?_of_mem hx
    obtain ⟨ad, _, _, _, g4, g5⟩ := key i x hi
    simp [Lit.wf, IntKind.min, IntKind.max, IntKind.signed, IntKind.bits] at g4 g5
    omega
def intsOf (ms : Mo intsG) : List Int := ms
theorem rep_ints {R : Nat} {w : World} {s : Slc} {ms : Mo intsG} (h : Gt.Rep R w intsG [.slice s.a s.l s.c] ms) : Rd w s (Is .i64 (intsOf ms)) ∧ (s.a = none → s.l = 0 ∧ s.c = 0) ∧ s.c * 8 ≤ R := by
  obtain ⟨s', he, h1, h2, h3, h4, h5⟩ := h
  have he' : s = s' := by
    cases s; cases s'; simpa using he
  subst he'
  refine ⟨⟨by rw [Is_length]; exact h1, h2, fun i hi => ?_⟩, h3, h4⟩
  rw [Is_length] at hi
  have hx : (intsOf ms)[i]? = some (intsOf ms)[i] := by simp
  obtain ⟨ad, es, g1, g2, g3, g4⟩ := h5 i (intsOf ms)[i] hx
  obtain ⟨rfl, q⟩ := g4
  have e0 := g3 0 (by decide)
  refine ⟨ad, g1, ?_⟩
  rw [Is_at _ _ hi]
  have e : w.cell? (ad.add i) = some (.int .i64 (intsOf ms)[i]) := by
    have := e0
    rw [add_zero', show i * (G.int IntKind.i64).sz = i from Nat.mul_one i] at this
    exact this
  exact e
def celL (l : List (Bool × Int × Unit)) : List Cel := l.map fun x => (x.1, x.2.1)
def celOf (ms : Mo celG) : List Cel := celL ms
theorem celL_at {l : List (Bool × Int × Unit)} {i : Nat} {x : Cel} (h : (celL l)[i]? = some x) : ∃ u, l[i]? = some (x.1, x.2, u) := by
  unfold celL at h
  rw [List.getElem?_map] at h
  cases hm : l[i]? with
  | none => rw [hm] at h; cases h
  | some m => rw [hm] at h; cases h; exact ⟨m.2.2, rfl⟩
theorem celL_len (l : List (Bool × Int × Unit)) : (celL l).length = l.length := by simp [celL]
theorem flatR_inv (cs : List Cel) (j : Nat) (v : Value) (h : (flatR cs)[j]? = some v) : ∃ i x, cs[i]? = some x ∧ ((j = i * 2 ∧ v = .bool x.1) ∨ (j = i * 2 + 1 ∧ v = .int .i64 x.2)) := by
  have hl := flatR_length cs
  have hj : j < cs.length * 2 := by rw [← hl]; exact (List.getElem?_eq_some_iff.1 h).1
  have hi : j / 2 < cs.length := by omega
  have hx : cs[j / 2]? = some cs[j / 2] := by simp
  have := flatR_at cs (j / 2) _ hx
  refine ⟨j / 2, _, hx, ?_⟩
  rcases Nat.mod_two_eq_zero_or_one j with h0 | h1
  · left
    have e : j = j / 2 * 2 := by omega
    refine ⟨e, ?_⟩
    have h2 := this.1
    rw [← e, h] at h2
    cases h2; rfl
  · right
    have e : j = j / 2 * 2 + 1 := by omega
    refine ⟨e, ?_⟩
    have h2 := this.2
    rw [← e, h] at h2
    cases h2; rfl
theorem rep_cel {R : Nat} {w : World} {s : Slc} {ms : Mo celG} (h : Gt.Rep R w celG [.slice s.a s.l s.c] ms) : RdQ w 2 s (flatR (celOf ms)) ∧ (s.a = none → s.l = 0 ∧ s.c = 0) ∧ s.c * 16 ≤ R := by
  obtain ⟨s', he, h1, h2, h3, h4, h5⟩ := h
  have he' : s = s' := by
    cases s; cases s'; simpa using he
  subst he'
  refine ⟨⟨by rw [flatR_length, h1]; congr 1; exact celL_len ms, h2, fun j v hv => ?_⟩, h3, h4⟩
  obtain ⟨i, x, hx, hc⟩ := flatR_inv _ _ _ hv
  obtain ⟨u, hm⟩ := celL_at hx
  obtain ⟨ad, es, g1, g2, g3, g4⟩ := h5 i (x.1, x.2, u) hm
  obtain ⟨c1, c2, rfl, rfl, c3, c4, rfl, ⟨rfl, q2⟩, rfl⟩ := g4
  have e0 := g3 0 (by decide)
  have e1 := g3 1 (by decide)
  have f0 : w.cell? (ad.add (i * 2)) = some (.bool x.1) := (by simpa using e0 : w.cell? (ad.add (i * (G.sz (.st (.pair .bool (.pair (.int .i64) .unit)))))) = _)
  have f1 : w.cell? ((ad.add (i * 2)).add 1) = some (.int .i64 x.2) := (by simpa using e1 : w.cell? ((ad.add (i * (G.sz (.st (.pair .bool (.pair (.int .i64) .unit)))))).add 1) = _)
  rcases hc with ⟨rfl, rfl⟩ | ⟨rfl, rfl⟩
  · exact ⟨ad, g1, f0⟩
  · exact ⟨ad, g1, by rw [← Deep.add_add]; exact f1⟩
/-- What is given to a machine, in memory. -/
structure Gv (w : World) (E : En) (s sa sr : Slc) : Prop where
  rc : RdC w s E.is
  nc : s.a = none → s.l = 0 ∧ s.c = 0
  ra : RdQ w 1 sa (Is .i64 E.args)
  na : sa.a = none → sa.l = 0 ∧ sa.c = 0
  rr : RdQ w 2 sr (flatR E.rs)
  nr : sr.a = none → sr.l = 0 ∧ sr.c = 0
  big : E.is.length ≤ 8800000000000
  la : sa.l = E.args.length
  lr : sr.l = E.rs.length
  ba : E.args.length ≤ 140737488351232
  br : E.rs.length ≤ 8796093021952
  b16 : E.is.length * 16 ≤ 140737488351232
  b8 : E.args.length * 8 ≤ 140737488351232
theorem Gv.ch0 {w w' : World} {E : En} {s sa sr : Slc} (h : Gv w E s sa sr) (hc : Ch [] w w') : Gv w' E s sa sr := ⟨h.rc.ch0 hc, h.nc, h.ra.ch0 hc, h.na, h.rr.ch0 hc, h.nr, h.big, h.la, h.lr, h.ba, h.br, h.b16, h.b8⟩
def callE (a b c d : Int) (mc : Mo insG) (ma : Mo intsG) (mr : Mo celG) : En := ⟨a, b, c, d, code mc, intsOf ma, celOf mr⟩
theorem rep_call {a b c d : Int} {s sa sr : Slc} {mc : Mo insG} {ma : Mo intsG} {mr : Mo celG} {w : World} (k4 : Gt.Rep reachBytes w insG [.slice s.a s.l s.c] mc) (k5 : Gt.Rep reachBytes w intsG [.slice sa.a sa.l sa.c] ma) (k6 : Gt.Rep reachBytes w celG [.slice sr.a sr.l sr.c] mr) : Gv w (callE a b c d mc ma mr) s sa sr := by
  obtain ⟨h1, _, h3, h4⟩ := rep_code k4
  obtain ⟨g1, g2, g3⟩ := rep_ints k5
  obtain ⟨f1, f2, f3⟩ := rep_cel k6
  have hre : reachBytes = 140737488351232 := rfl
  have l1 := h1.len
  have c1 := h1.cap
  have l2 := g1.len
  have c2 := g1.cap
  rw [Is_length] at l2
  have l3 := f1.len
  have c3 := f1.cap
  rw [flatR_length] at l3
  exact ⟨h1, h3, g1.rdQ, g2, f1, f2, show (code mc).length ≤ _ by omega, l2, show sr.l = (celOf mr).length by omega, show (intsOf ma).length ≤ _ by omega, show (celOf mr).length ≤ _ by omega, show (code mc).length * 16 ≤ _ by omega, show (intsOf ma).length * 8 ≤ _ by omega⟩
theorem Gv.run {w : World} {E : En} {s sa sr : Slc} {K : Bool → Int → Int → Slc → Slc → Int → Int → World → Prop} (h : Gv w E s sa sr)
    (hK : ∀ so sp w', EfM w.heap.size w' so sp (runE E) → Ch [] w w' → K (runE E).t (runE E).cd (runE E).us so sp (runE E).n (newE E) w') : c_vm_Run E.a E.b E.c E.d s sa sr w K := run_ok h.rc h.nc h.ra h.na h.rr h.nr h.big hK
theorem efOf_end {E : En} (hS : Sound E) : runE E = ⟨(endOf E).cd == 0, (endOf E).cd, (endOf E).us, (endOf E).out, (endOf E).pu, (endOf E).n⟩ := by
  unfold runE
  rw [if_pos (newE_s hS)]
  unfold efOf
  rw [(endOf_ok hS).2]
  rfl
theorem ef_len (E : En) : (runE E).out.length ≤ 16 ∧ (runE E).pu.length ≤ 16 := by
  by_cases h : newE E = 0
  · have hS := newE_0 h
    rw [efOf_end hS]
    have := (endOf_ok hS).1
    have h1 := this.out
    have h2 := this.pu
    have h3 := hS.rng
    exact ⟨h1, by simp only []; omega⟩
  · unfold runE
    rw [if_neg h]
    exact ⟨by decide, by decide⟩
/-- An effect's block, and the effect that was put there. -/
theorem EfM.same {n1 n2 : Nat} {w : World} {so sp ro rp : Slc} {e : Ef} {K : Bool → World → Prop} (h1 : EfM n1 w so sp e) (h2 : EfM n2 w ro rp e) (hl : e.out.length ≤ 16 ∧ e.pu.length ≤ 16) (hK : ∀ w', Ch [] w w' → K true w') : c_preludelaw05_sameEffect e.t e.cd e.us so sp e.n e.t e.cd e.us ro rp e.n w K :=
  sameEffect_ok h1.out.rd h2.out.rd h1.pu.rdC2 h2.pu.rdC2 (by omega) (by omega) hK
end Go.Proofs.Ytlkgnfpjmafdkaa
