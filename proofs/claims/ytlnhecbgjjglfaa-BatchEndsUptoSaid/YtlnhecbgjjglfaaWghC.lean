/- WghC: the document's sets of writes; the law BatchWeighs. -/
import Derived.Test.YtlnhecbgjjglfaaWghB
set_option linter.unusedVariables false
set_option linter.unusedSimpArgs false
namespace Go.Proofs.Ytlnhecbgjjglfaa
open Go Go.Sh Go.Pl Go.RowKit Go.Gt
theorem rwrites_ok {b : Slc} {xs : List Txm} {w : World} {K : Slc → World → Prop} (hb : RdB w b xs) (few : Few xs)
    (hK : ∀ (s : Slc) (rows : List Slc) (w' : World), Own w' 30 1 s (rows.map slV) → rows.length = xs.length → (∀ (i : Nat) (r : Slc) (x : Txm), rows[i]? = some r → xs[i]? = some x → RdC w r x.writes) → Ch [] w w' → K s w') : c_preluderef06_Writes b w K := by
  refine sim_preluderef06_Writes ?_
  unfold sh_preluderef06_Writes
  have lb := hb.len
  have f1 := few.1
  refine loopP_inv (fun st w2 => ∃ (i : Nat) (rows : List Slc), st.2.1 = (i : Int) ∧ i ≤ xs.length ∧ rows.length = i ∧ st.1.l = i ∧ Own w2 30 1 st.1 (rows.map slV) ∧ (∀ (j : Nat) (r : Slc) (x : Txm), rows[j]? = some r → xs[j]? = some x → RdC w r x.writes) ∧ Ge w.heap.size (blkOf st.1) ∧ Ch [] w w2) (fun st _ => xs.length - st.2.1.toNat)
    ⟨0, [], rfl, Nat.zero_le _, rfl, rfl, Own.nil _ _ _, fun j r x h => by simp at h, fun k hk => (by cases hk), Ch.refl _ _⟩ ?_
  rintro ⟨s, i0, u⟩ w2 next ⟨i, rows, rfl, hi, hrl, hsl, hO, hrd, hg, hc⟩ hnext
  dsimp only at hsl hO hg ⊢
  refine iteB_dec (fun h => ?_) (fun h => ?_)
  · have hlt : i < xs.length := by omega
    have hx : xs[i]? = some xs[i] := by simp
    obtain ⟨ad, ag, rs, ws, hA0, ia0⟩ := hb.at' hlt
    have hA := hA0.ch0 hc
    refine ia0 _ _ rfl (ldS_of (s := ws) hA.c3 ?_)
    refine apB TKK rfl (fun u hu => by simp at hu; subst hu; rfl) hO (by omega) (by omega) fun s' w5 ho5 hl5 hg5 => ?_
    obtain ⟨hc5, hf5⟩ := hg5.ch
    have z0 := hc.size
    rw [wrap_i64 (by omega)]
    refine hnext _ _ ⟨i + 1, rows ++ [ws], by simp, hlt, by simp [hrl], by dsimp only; omega, by rw [List.map_append]; exact ho5, fun j r x h1 h2 => ?_, fun k hk => ?_, hc.trO hc5 hg⟩ (by simp; omega)
    · rcases Nat.lt_or_ge j rows.length with g | g
      · rw [List.getElem?_append_left g] at h1; exact hrd j r x h1 h2
      · have hj : j = rows.length := by
          have := (List.getElem?_eq_some_iff.1 h1).1
          simp at this; omega
        subst hj
        rw [List.getElem?_append_right (Nat.le_refl _), Nat.sub_self] at h1
        simp at h1
        subst h1
        rw [hrl, hx] at h2
        cases h2
        exact hA0.fw
    · rcases hf5 k hk with e | e
      · exact hg k e
      · omega
  · have hie : i = xs.length := by omega
    exact hK s rows w2 hO (by omega) hrd hc
end Go.Proofs.Ytlnhecbgjjglfaa
