/- LibC: the law LangChecks: a library's copy, whether two are the same, what came in. -/
import Derived.Test.YthgkehldimldgaaDoorLibB
import Derived.Test.YthgkehldimldgaaDoorPutB
set_option linter.unusedVariables false
set_option linter.unusedSimpArgs false
namespace Go.Pl
open Go Go.Sh Go.RowKit
theorem slP_front {ad : Addr} {l c n sz : Nat} {hi : Int} {K : Option Addr → Nat → Nat → Prop} (hh : hi = (n : Int)) (hn : n ≤ c) (hK : K (some ad) n c) : slP (some ad) l c none (some hi) sz K := by
  subst hh
  unfold slP
  simp only [Option.getD_none, Option.getD_some, Int.toNat_zero, Nat.zero_mul, Nat.sub_zero]
  refine ⟨by omega, by omega, by omega, ?_⟩
  have e : (if c = 0 then some ad else (some ad).map (·.add 0)) = some ad := by
    split <;> rfl
  rw [e, Int.toNat_natCast]
  exact hK
end Go.Pl
namespace Go.Proofs.YthgkehldimldgaaDoor
open Go Go.Sh Go.Pl Go.RowKit Go.Lang Go.Names Go.Gt
theorem TPc : ElT Tryd.prog 22 37 (.agg #[.string ByteArray.empty, .int .i64 0, .int .i64 0, .int .i64 0, .int .i64 0, .slice none 0 0]) 6 72 := ⟨by kernel_rfl, by kernel_rfl, rfl, by decide⟩
def behind : ByteArray := ByteArray.mk #[98, 101, 104, 105, 110, 100]
abbrev pgG : G := .st (.pair (.int .i64) (.pair (.int .i64) (.pair (.int .i64) (.pair (.int .i64) (.pair insG .unit)))))
abbrev libG : G := .sl 72 (.st (.pair .str (.pair pgG .unit)))
def pgOf (m : Int × Int × Int × Int × Mo insG × Unit) : Pg := ⟨m.1, m.2.1, m.2.2.1, m.2.2.2.1, code m.2.2.2.2.1⟩
def libL (l : List (ByteArray × (Int × Int × Int × Int × Mo insG × Unit) × Unit)) : List Pc := l.map fun m => ⟨m.1, pgOf m.2.1⟩
theorem libL_at {l : List (ByteArray × (Int × Int × Int × Int × Mo insG × Unit) × Unit)} {i : Nat} {x : Pc} (h : (libL l)[i]? = some x) : ∃ nm a b c d mi, l[i]? = some (nm, (a, b, c, d, mi, ()), ()) ∧ x = ⟨nm, ⟨a, b, c, d, code mi⟩⟩ := by
  unfold libL at h
  rw [List.getElem?_map] at h
  cases hm : l[i]? with
  | none => rw [hm] at h; cases h
  | some m =>
    rw [hm] at h
    cases h
    exact ⟨m.1, m.2.1.1, m.2.1.2.1, m.2.1.2.2.1, m.2.1.2.2.2.1, m.2.1.2.2.2.2.1, rfl, rfl⟩
theorem libL_len (l : List (ByteArray × (Int × Int × Int × Int × Mo insG × Unit) × Unit)) : (libL l).length = l.length := by simp [libL]
def libOf (ms : Mo libG) : List Pc := libL ms
def I64p (x : Pg) : Prop := (-9223372036854775808 ≤ x.a ∧ x.a ≤ 9223372036854775807) ∧ (-9223372036854775808 ≤ x.b ∧ x.b ≤ 9223372036854775807) ∧ (-9223372036854775808 ≤ x.c ∧ x.c ≤ 9223372036854775807) ∧ (-9223372036854775808 ≤ x.d ∧ x.d ≤ 9223372036854775807) ∧ I64 x.l
theorem rep_lib {R : Nat} {w : World} {s : Slc} {ms : Mo libG} (hR : R ≤ 140737488351232) (h : Gt.Rep R w libG [.slice s.a s.l s.c] ms) : RdL w s (libOf ms) ∧ (∀ x ∈ libOf ms, I64p x.p ∧ x.name.size ≤ R) ∧ (s.a = none → s.l = 0 ∧ s.c = 0) ∧ s.c * 72 ≤ R := by
  obtain ⟨s', he, h1, h2, h3, h4, h5⟩ := h
  have he' : s = s' := by
    cases s; cases s'; simpa using he
  subst he'
  have wf : ∀ {n : Int}, (Lit.int .i64 n).wf = true → -9223372036854775808 ≤ n ∧ n ≤ 9223372036854775807 := fun h => by
    simp [Lit.wf, IntKind.min, IntKind.max, IntKind.signed, IntKind.bits] at h
    omega
  have key : ∀ (i : Nat) (x : Pc), (libOf ms)[i]? = some x → ∃ ad cs, s.a = some ad ∧ PcAt w (ad.add (i * 6)) x cs ∧ I64p x.p ∧ x.name.size ≤ R := fun i x hx => by
    obtain ⟨nm, a, b, c, d, mi, hm, rfl⟩ := libL_at hx
    obtain ⟨ad, es, g1, g2, g3, g4⟩ := h5 i (nm, (a, b, c, d, mi, ()), ()) hm
    obtain ⟨c1, c2, rfl, ⟨rfl, hz⟩, c3, c4, rfl, ⟨d1, d2, rfl, ⟨rfl, w1⟩, d3, d4, rfl, ⟨rfl, w2⟩, d5, d6, rfl, ⟨rfl, w3⟩, d7, d8, rfl, ⟨rfl, w4⟩, d9, d10, rfl, hins, rfl⟩, rfl⟩ := g4
    have hins' := hins
    obtain ⟨cs, rfl, _⟩ := hins
    obtain ⟨hrd, h64, hnil, hcap⟩ := rep_code hins'
    have e0 := g3 0 (by decide)
    have e1 := g3 1 (by decide)
    have e2 := g3 2 (by decide)
    have e3 := g3 3 (by decide)
    have e4 := g3 4 (by decide)
    have e5 := g3 5 (by decide)
    have lr := hrd.len
    have cr := hrd.cap
    exact ⟨ad, cs, g1, ⟨e0, e1, e2, e3, e4, e5, hrd, (show (code mi).length ≤ 8800000000000 by have lr' : cs.l = (code mi).length := lr; omega), fun h => (hnil h).1⟩, ⟨wf w1, wf w2, wf w3, wf w4, h64⟩, hz⟩
  refine ⟨⟨by rw [h1]; exact (libL_len ms).symm, h2, fun i x hx => ?_⟩, fun x hx => ?_, h3, h4⟩
  · obtain ⟨ad, cs, g1, g2, _⟩ := key i x hx
    exact ⟨ad, cs, g1, g2⟩
  · obtain ⟨i, hi⟩ := List.getElem?_of_mem hx
    obtain ⟨ad, cs, _, _, g4⟩ := key i x hi
    exact g4
end Go.Proofs.YthgkehldimldgaaDoor
