/- ProgB: the limits of a program; a roomy copy of it. -/
import Derived.Test.YthgkehldimldgaaDoorIns
import Derived.Test.YthgkehldimldgaaDoorDep
import Derived.Deep.Slices
set_option linter.unusedVariables false
set_option linter.unusedSimpArgs false
namespace Go.Pl
open Go Go.Sh Go.RowKit
def flat (cs : List (Int × Int)) : List Value := cs.flatMap fun x => [.int .i64 x.1, .int .i64 x.2]
theorem flat_length (cs : List (Int × Int)) : (flat cs).length = cs.length * 2 := by
  induction cs with
  | nil => rfl
  | cons x cs ih =>
    show ([Value.int .i64 x.1, .int .i64 x.2] ++ flat cs).length = _
    rw [List.length_append, ih, List.length_cons]
    simp; omega
theorem flat_at : ∀ (cs : List (Int × Int)) (i : Nat) (x : Int × Int), cs[i]? = some x → (flat cs)[i * 2]? = some (.int .i64 x.1) ∧ (flat cs)[i * 2 + 1]? = some (.int .i64 x.2)
  | [], i, x, h => by simp at h
  | y :: cs, 0, x, h => by
    simp at h; subst h
    exact ⟨rfl, rfl⟩
  | y :: cs, i + 1, x, h => by
    have := flat_at cs i x (by simpa using h)
    have e : flat (y :: cs) = [Value.int .i64 y.1, .int .i64 y.2] ++ flat cs := rfl
    rw [e, List.getElem?_append_right (by simp; omega), List.getElem?_append_right (by simp; omega)]
    rw [show (i + 1) * 2 - [Value.int .i64 y.1, .int .i64 y.2].length = i * 2 by simp; omega, show (i + 1) * 2 + 1 - [Value.int .i64 y.1, .int .i64 y.2].length = i * 2 + 1 by simp; omega]
    exact this
theorem flat_one (cs : List (Int × Int)) : ∀ v ∈ flat cs, v.oneCell' = true := by
  intro v hv
  obtain ⟨x, _, hx⟩ := List.mem_flatMap.1 hv
  simp at hx
  rcases hx with rfl | rfl <;> rfl
theorem flat_inv (cs : List (Int × Int)) (j : Nat) (v : Value) (h : (flat cs)[j]? = some v) : ∃ i x, cs[i]? = some x ∧ ((j = i * 2 ∧ v = .int .i64 x.1) ∨ (j = i * 2 + 1 ∧ v = .int .i64 x.2)) := by
  have hl := flat_length cs
  have hj : j < cs.length * 2 := by rw [← hl]; exact (List.getElem?_eq_some_iff.1 h).1
  have hi : j / 2 < cs.length := by omega
  have hx : cs[j / 2]? = some cs[j / 2] := by simp
  have := flat_at cs (j / 2) _ hx
  refine ⟨j / 2, _, hx, ?_⟩
  rcases Nat.mod_two_eq_zero_or_one j with h0 | h1
  · left
    have e : j = j / 2 * 2 := by omega
    refine ⟨e, ?_⟩
    rw [e, this.1] at h
    exact (Option.some.inj h).symm
  · right
    have e : j = j / 2 * 2 + 1 := by omega
    refine ⟨e, ?_⟩
    rw [e, this.2] at h
    exact (Option.some.inj h).symm
theorem RdC.cells {w : World} {s : Slc} {cs : List (Int × Int)} (h : RdC w s cs) : ∀ ad, s.a = some ad → ∀ j v, (flat cs)[j]? = some v → w.cell? (ad.add j) = some v := fun ad ha j v hv => by
  obtain ⟨i, x, hx, hc⟩ := flat_inv cs j v hv
  obtain ⟨ad', ha', h1, h2⟩ := h.at_ i x hx
  rw [ha] at ha'; cases ha'
  rcases hc with ⟨rfl, rfl⟩ | ⟨rfl, rfl⟩
  · exact h1
  · rw [← Deep.add_add]; exact h2
/-- A block whose first cells are these elements. -/
theorem Blk.rdC {w : World} {b : Nat} {cur : Array Value} {t : TypeId} (h : Blk w b cur t) {cs : List (Int × Int)} (hp : ∀ (j : Nat) (v : Value), (flat cs)[j]? = some v → cur[j]? = some v) {c : Nat} (hc : cs.length ≤ c) : RdC w ⟨some ⟨b, 0, none⟩, cs.length, c⟩ cs :=
  ⟨rfl, hc, fun i x hx => by
    have := flat_at cs i x hx
    refine ⟨_, rfl, ?_, ?_⟩
    · rw [add_mk, Nat.zero_add, h.cell]; exact hp _ _ this.1
    · rw [add_mk, add_mk, Nat.zero_add, h.cell]; exact hp _ _ this.2⟩
end Go.Pl
namespace Go.Proofs.YthgkehldimldgaaDoor
open Go Go.Sh Go.Pl Go.RowKit Go.Lang
theorem TIn : ElT Tryd.prog 33 39 (.agg #[.int .i64 0, .int .i64 0]) 2 16 := ⟨by kernel_rfl, by kernel_rfl, rfl, by decide⟩
theorem within_ok {n most : Int} {w : World} {K : Bool → World → Prop} (hK : K (decide (0 ≤ n ∧ n ≤ most)) w) : c_lang_within n most w K := by
  refine sim_lang_within ?_
  unfold sh_lang_within
  refine iteB_intro (fun h => ?_) (fun h => ?_)
  · have h0 : 0 ≤ n := by simpa using h
    simpa [h0] using hK
  · have h0 : ¬ 0 ≤ n := by simpa using h
    simpa [h0] using hK
theorem sizes_ok {a b c d : Int} {s : Slc} {w : World} {K : Int → World → Prop} (hK : ∀ w', Chg Nil w w' → K (if okP a b c d s.l then 0 else 30) w') : c_lang_sizes a b c d s w K := by
  refine sim_lang_sizes ?_
  unfold sh_lang_sizes
  refine newP_intro fun w1 hc1 hb1 hs1 => ?_
  have k1 : ∀ {o : Nat} {v : Value}, (#[.int .i64 a, .int .i64 b, .int .i64 c, .int .i64 d, .slice s.a s.l s.c] : Array Value)[o]? = some v → w1.cell? ((⟨w.heap.size, 0, none⟩ : Addr).add o) = some v := fun hv => by rw [add_mk, Nat.zero_add, hb1.cell]; exact hv
  have fin := hK w1 hc1
  unfold okP at fin
  have bad : ((decide (0 ≤ a ∧ a ≤ 16) && decide (0 ≤ b ∧ b ≤ 16) && decide (0 ≤ c ∧ c ≤ 16) && decide (0 ≤ d ∧ d ≤ 16) && decide (s.l ≤ 256)) = false) → K 30 w1 := fun h => by rw [h] at fin; exact fin
  refine ldI_of (k1 (o := 0) rfl) (within_ok (iteB_intro (fun h1 => ?_) (fun h1 => bad (by rw [h1]; rfl))))
  refine ldI_of (k1 (o := 1) rfl) (within_ok (iteB_intro (fun h2 => ?_) (fun h2 => bad (by rw [h1, h2]; rfl))))
  refine ldI_of (k1 (o := 2) rfl) (within_ok (iteB_intro (fun h3 => ?_) (fun h3 => bad (by rw [h1, h2, h3]; rfl))))
  refine ldI_of (k1 (o := 3) rfl) (within_ok (iteB_intro (fun h4 => ?_) (fun h4 => ?_)))
  · exact bad (by rw [show decide (0 ≤ d ∧ d ≤ 16) = false from by rw [Bool.not_eq_true'] at h4; exact h4]; simp)
  have h4 : decide (0 ≤ d ∧ d ≤ 16) = true := by simpa using h4
  refine ldS_of (s := s) (k1 (o := 4) rfl) (iteB_intro (fun h5 => ?_) (fun h5 => ?_))
  · have : ¬ s.l ≤ 256 := by simp at h5; omega
    exact bad (by rw [decide_eq_false this]; simp)
  · have : s.l ≤ 256 := by simp at h5; omega
    rw [h1, h2, h3, h4, decide_eq_true this] at fin
    exact fin
theorem limits_ok {a b c d : Int} {s : Slc} {w : World} {K : Bool → World → Prop} (hK : ∀ w', Chg Nil w w' → K (okP a b c d s.l) w') : c_preluderef03_limits a b c d s w K := by
  refine sim_preluderef03_limits ?_
  unfold sh_preluderef03_limits
  refine newP_intro fun w1 hc1 hb1 hs1 => ?_
  have k1 : ∀ {o : Nat} {v : Value}, (#[.int .i64 a, .int .i64 b, .int .i64 c, .int .i64 d, .slice s.a s.l s.c] : Array Value)[o]? = some v → w1.cell? ((⟨w.heap.size, 0, none⟩ : Addr).add o) = some v := fun hv => by rw [add_mk, Nat.zero_add, hb1.cell]; exact hv
  have fin := hK w1 hc1
  have bad : ¬ ((0 ≤ a ∧ a ≤ 16) ∧ (0 ≤ b ∧ b ≤ 16) ∧ (0 ≤ c ∧ c ≤ 16) ∧ (0 ≤ d ∧ d ≤ 16) ∧ s.l ≤ 256) → K false w1 := fun h => by
    have : okP a b c d s.l = false := by
      cases ho : okP a b c d s.l with
      | false => rfl
      | true => simp [okP] at ho; exact absurd ⟨ho.1.1.1.1, ho.1.1.1.2, ho.1.1.2, ho.1.2, ho.2⟩ h
    rwa [this] at fin
  refine ldI_of (k1 (o := 0) rfl) (iteB_intro (fun h => bad (by simp at h; omega)) (fun h1 => ?_))
  refine ldI_of (k1 (o := 0) rfl) (iteB_intro (fun h => bad (by simp at h; omega)) (fun h2 => ?_))
  refine ldI_of (k1 (o := 1) rfl) (iteB_intro (fun h => bad (by simp at h; omega)) (fun h3 => ?_))
  refine ldI_of (k1 (o := 1) rfl) (iteB_intro (fun h => bad (by simp at h; omega)) (fun h4 => ?_))
  refine ldI_of (k1 (o := 2) rfl) (iteB_intro (fun h => bad (by simp at h; omega)) (fun h5 => ?_))
  refine ldI_of (k1 (o := 2) rfl) (iteB_intro (fun h => bad (by simp at h; omega)) (fun h6 => ?_))
  refine ldI_of (k1 (o := 3) rfl) (iteB_intro (fun h7 => ?_) (fun h => bad (by simp at h; omega)))
  refine ldI_of (k1 (o := 3) rfl) (iteB_intro (fun h8 => ?_) (fun h => bad (by simp at h; omega)))
  refine ldS_of (s := s) (k1 (o := 4) rfl) ?_
  simp at h1 h2 h3 h4 h5 h6 h7 h8
  have : okP a b c d s.l = decide ((s.l : Int) ≤ 256) := by
    rw [Bool.eq_iff_iff]
    simp [okP]
    omega
  rwa [this] at fin
end Go.Proofs.YthgkehldimldgaaDoor
