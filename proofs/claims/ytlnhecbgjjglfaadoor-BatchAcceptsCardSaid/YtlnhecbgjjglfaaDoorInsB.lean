/- ProgB: the limits of a program; a roomy copy of it. -/
import Derived.Test.YtlnhecbgjjglfaaDoorIns
import Derived.Test.YtlnhecbgjjglfaaDoorDep
import Derived.Deep.Slices
set_option linter.unusedVariables false
set_option linter.unusedSimpArgs false
namespace Go.Pl
open Go Go.Sh Go.RowKit
def flat (cs : List (Int × Int)) : List Value := cs.flatMap fun x => [.int .i64 x.1, .int .i64 x.2]
theorem flat_length (cs : List (Int × Int)) : (flat cs).length = cs.length * 2 := by
  induction cs with
  | nil => rfl
  | cons x cs ih =>
    show ([Value.int .i64 x.1, .int .i64 x.2] ++ flat cs).length = _
    rw [List.length_append, ih, List.length_cons]
    simp; omega
theorem flat_at : ∀ (cs : List (Int × Int)) (i : Nat) (x : Int × Int), cs[i]? = some x → (flat cs)[i * 2]? = some (.int .i64 x.1) ∧ (flat cs)[i * 2 + 1]? = some (.int .i64 x.2)
  | [], i, x, h => by simp at h
  | y :: cs, 0, x, h => by
    simp at h; subst h
    exact ⟨rfl, rfl⟩
  | y :: cs, i + 1, x, h => by
    have := flat_at cs i x (by simpa using h)
    have e : flat (y :: cs) = [Value.int .i64 y.1, .int .i64 y.2] ++ flat cs := rfl
    rw [e, List.getElem?_append_right (by simp; omega), List.getElem?_append_right (by simp; omega)]
    rw [show (i + 1) * 2 - [Value.int .i64 y.1, .int .i64 y.2].length = i * 2 by simp; omega, show (i + 1) * 2 + 1 - [Value.int .i64 y.1, .int .i64 y.2].length = i * 2 + 1 by simp; omega]
    exact this
theorem flat_one (cs : List (Int × Int)) : ∀ v ∈ flat cs, v.oneCell' = true := by
  intro v hv
  obtain ⟨x, _, hx⟩ := List.mem_flatMap.1 hv
  simp at hx
  rcases hx with rfl | rfl <;> rfl
theorem flat_inv (cs : List (Int × Int)) (j : Nat) (v : Value) (h : (flat cs)[j]? = some v) : ∃ i x, cs[i]? = some x ∧ ((j = i * 2 ∧ v = .int .i64 x.1) ∨ (j = i * 2 + 1 ∧ v = .int .i64 x.2)) := by
  have hl := flat_length cs
  have hj : j < cs.length * 2 := by rw [← hl]; exact (List.getElem?_eq_some_iff.1 h).1
  have hi : j / 2 < cs.length := by omega
  have hx : cs[j / 2]? = some cs[j / 2] := by simp
  have := flat_at cs (j / 2) _ hx
  refine ⟨j / 2, _, hx, ?_⟩
  rcases Nat.mod_two_eq_zero_or_one j with h0 | h1
  · left
    have e : j = j / 2 * 2 := by omega
    refine ⟨e, ?_⟩
    rw [e, this.1] at h
    exact (Option.some.inj h).symm
  · right
    have e : j = j / 2 * 2 + 1 := by omega
    refine ⟨e, ?_⟩
    rw [e, this.2] at h
    exact (Option.some.inj h).symm
theorem RdC.cells {w : World} {s : Slc} {cs : List (Int × Int)} (h : RdC w s cs) : ∀ ad, s.a = some ad → ∀ j v, (flat cs)[j]? = some v → w.cell? (ad.add j) = some v := fun ad ha j v hv => by
  obtain ⟨i, x, hx, hc⟩ := flat_inv cs j v hv
  obtain ⟨ad', ha', h1, h2⟩ := h.at_ i x hx
  rw [ha] at ha'; cases ha'
  rcases hc with ⟨rfl, rfl⟩ | ⟨rfl, rfl⟩
  · exact h1
  · rw [← Deep.add_add]; exact h2
/-- A block whose first cells are these elements. -/
theorem Blk.rdC {w : World} {b : Nat} {cur : Array Value} {t : TypeId} (h : Blk w b cur t) {cs : List (Int × Int)} (hp : ∀ (j : Nat) (v : Value), (flat cs)[j]? = some v → cur[j]? = some v) {c : Nat} (hc : cs.length ≤ c) : RdC w ⟨some ⟨b, 0, none⟩, cs.length, c⟩ cs :=
  ⟨rfl, hc, fun i x hx => by
    have := flat_at cs i x hx
    refine ⟨_, rfl, ?_, ?_⟩
    · rw [add_mk, Nat.zero_add, h.cell]; exact hp _ _ this.1
    · rw [add_mk, add_mk, Nat.zero_add, h.cell]; exact hp _ _ this.2⟩
end Go.Pl
namespace Go.Proofs.YtlnhecbgjjglfaaDoor
open Go Go.Sh Go.Pl Go.RowKit Go.Lang
theorem TIn : ElT Tryd.prog 38 155 (.agg #[.int .i64 0, .int .i64 0]) 2 16 := ⟨by kernel_rfl, by kernel_rfl, rfl, by decide⟩
end Go.Proofs.YtlnhecbgjjglfaaDoor
