/- WghB: a batch's sets of writes. -/
import Derived.Test.YtlnhecbgjjglfaaGreatWgh
set_option linter.unusedVariables false
set_option linter.unusedSimpArgs false
namespace Go.Proofs.YtlnhecbgjjglfaaGreat
open Go Go.Sh Go.Pl Go.RowKit Go.Gt
def setsV (xs : List Txm) : List (List Value) := xs.map fun x => flat x.writes
set_option maxHeartbeats 1000000 in
theorem writes_ok {b : Slc} {xs : List Txm} {w : World} {K : Slc → World → Prop} (hb : RdB w b xs) (few : Few xs)
    (hK : ∀ s rows w', SetsO w.heap.size w'.heap.size w' s rows (setsV xs) → (∀ (i : Nat) (r : Slc) (x : Txm), rows[i]? = some r → xs[i]? = some x → r.l = x.writes.length) → Ch [] w w' → K s w') : c_batch_Writes b w K := by
  refine sim_batch_Writes ?_
  unfold sh_batch_Writes
  have lb := hb.len
  have f1 := few.1
  refine mkP0 TKK (by omega) (by omega) fun s1 w1 ho1 hl1 hc1 hg1 => ?_
  refine loopP_inv (fun st w2 => ∃ (i : Nat) (rows : List Slc), st.2.1 = (i : Int) ∧ i ≤ xs.length ∧ rows.length = i ∧ st.1.l = i ∧ SetsO w.heap.size w2.heap.size w2 st.1 rows (setsV (xs.take i)) ∧ (∀ (j : Nat) (r : Slc) (x : Txm), rows[j]? = some r → xs[j]? = some x → r.l = x.writes.length) ∧ Ch [] w w2) (fun st _ => xs.length - st.2.1.toNat)
    ⟨0, [], rfl, Nat.zero_le _, rfl, hl1, ⟨ho1, rfl, fun i r vs h => by simp at h, fun k hk => ⟨hg1 k hk, ho1.ltS k hk⟩, fun i r k h => by simp at h, fun i r k h => by simp at h, fun i j r q k h => by simp at h⟩, fun j r x h => by simp at h, hc1⟩ ?_
  rintro ⟨s, i0, u⟩ w2 next ⟨i, rows, rfl, hi, hrl, hsl, hS, hlen, hc⟩ hnext
  dsimp only at hsl hS ⊢
  refine iteB_dec (fun h => ?_) (fun h => ?_)
  · have hlt : i < xs.length := by omega
    have hx : xs[i]? = some xs[i] := by simp
    obtain ⟨ad, ag, rs, ws, hA, ia⟩ := (hb.ch0 hc).at' hlt
    refine ia _ _ rfl (ldTx hA ?_)
    refine newTx fun k1 w3 hc3 hb3 hk3 hs3 => ?_
    replace hA := hA.ch0 hc3
    refine ldS_b (s := ws) hb3 rfl ?_
    refine cloneK_ok hA.fw hA.nw (few.2 _ (List.getElem_mem hlt)).2.2 fun r w4 hr4 hc4 hg4 hl4 => ?_
    have z3 := hc3.size
    have z4 := hc4.size
    have hc24 := hc3.tr hc4
    have z0 := hc.size
    have hS4 := hS.chg (S := fun _ => False) (Chg.mono (show Chg Nil w2 w4 from hc24) fun _ _ h => h.elim) fun _ _ _ h => h
    refine apB TKK rfl (fun u hu => by simp at hu; subst hu; rfl) hS4.own (by omega) (by omega) fun s' w5 ho5 hl5 hg5 => ?_
    obtain ⟨hc5, hf5⟩ := hg5.ch
    have z5 := hc5.size
    rw [wrap_i64 (by omega)]
    have nr : ∀ k, blkOf r = some k → ¬ inL [blkOf s] k := fun k hk hin => by
      have a1 := hg4 k hk
      have a2 := (hS.inl k (show some k = blkOf s from hin).symm).2
      omega
    have sv : setsV (xs.take (i + 1)) = setsV (xs.take i) ++ [flat xs[i].writes] := by
      unfold setsV
      rw [List.take_succ_eq_append_getElem hlt, List.map_append]; rfl
    have sl : (setsV (xs.take i)).length = rows.length := by rw [hS.len]
    have get : ∀ {α : Type} {l : List α} {a c : α} {j : Nat}, (l ++ [a])[j]? = some c → l[j]? = some c ∨ (j = l.length ∧ c = a) := fun {α l a c j} h => by
      rcases Nat.lt_or_ge j l.length with g | g
      · rw [List.getElem?_append_left g] at h; exact .inl h
      · have : j = l.length := by
          have := (List.getElem?_eq_some_iff.1 h).1
          simp at this; omega
        subst this
        rw [List.getElem?_append_right (Nat.le_refl _), Nat.sub_self] at h
        simp at h
        exact .inr ⟨rfl, h.symm⟩
    refine hnext _ _ ⟨i + 1, rows ++ [r], by simp, hlt, by simp [hrl], by dsimp only; omega, ⟨by rw [List.map_append]; exact ho5, by rw [sv]; simp [sl], fun j q vs h1 h2 => ?_, fun k hk => ⟨?_, ho5.ltS k hk⟩, fun j q k h1 h2 => ?_, fun j q k h1 h2 h3 => ?_, fun j j' q q' k h1 h2 h3 h4 => ?_⟩, fun j q x h1 h2 => ?_, (hc.tr hc24).trO hc5 fun k hk => (hS.inl k hk).1⟩ (by simp; omega)
    · rw [sv] at h2
      rcases get h1 with g | ⟨g, rfl⟩
      · have hj := (List.getElem?_eq_some_iff.1 g).1
        rw [List.getElem?_append_left (by omega)] at h2
        exact (hS4.row j q vs g h2).ch hc5 fun k hk hin => hS.dl j q k g hk (show some k = blkOf s from hin).symm
      · rw [g, List.getElem?_append_right (by omega), sl, Nat.sub_self] at h2
        simp at h2
        subst h2
        exact hr4.ch hc5 nr
    · rcases hf5 k hk with g | g
      · exact (hS.inl k g).1
      · omega
    · rcases get h1 with g | ⟨g, rfl⟩
      · have := hS.inr j q k g h2; omega
      · have := hg4 k h2
        have := hr4.ltS k h2; omega
    · rcases get h1 with g | ⟨g, rfl⟩
      · rcases hf5 k h3 with e | e
        · exact hS.dl j q k g h2 e
        · have := (hS.inr j q k g h2).2; omega
      · rcases hf5 k h3 with e | e
        · exact nr k h2 (show some k = blkOf s from e.symm)
        · have := hr4.ltS k h2; omega
    · rcases get h1 with g | ⟨g, rfl⟩ <;> rcases get h2 with g' | ⟨g', rfl⟩
      · exact hS.dr j j' q q' k g g' h3 h4
      · have a1 := (hS.inr j q k g h3).2
        have a2 := hg4 k h4; omega
      · have a1 := (hS.inr j' q' k g' h4).2
        have a2 := hg4 k h3; omega
      · omega
    · rcases get h1 with g | ⟨g, rfl⟩
      · exact hlen j q x g h2
      · rw [g, hrl, hx] at h2
        cases h2
        exact hl4
  · have hie : i = xs.length := by omega
    subst hie
    rw [List.take_length] at hS
    exact hK s rows w2 hS hlen hc
end Go.Proofs.YtlnhecbgjjglfaaGreat
