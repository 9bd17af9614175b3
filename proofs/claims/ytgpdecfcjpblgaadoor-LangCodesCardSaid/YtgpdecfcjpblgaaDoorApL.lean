/- ApL: two answers of Decode are written full, and grow: neither is seen in the other. -/
import Derived.Test.YtgpdecfcjpblgaaDoorDec
import Derived.Test.YtgpdecfcjpblgaaDoorKeep
set_option linter.unusedVariables false
set_option linter.unusedSimpArgs false
namespace Go.Pl
open Go Go.Sh Go.RowKit Go.Lang
theorem Own.st1' {w : World} {e : TypeId} {s : Slc} {vs : List Value} {x : Nat} {x' : Int} {v : Value} {K : World → Prop} (h : Own w e 1 s vs) (hx : x < s.l) (hx' : x' = (x : Int))
    (hK : ∀ w', Own w' e 1 s (vs.set x v) → Ch [blkOf s] w w' → w'.heap.size = w.heap.size → K w') : idxP s.a s.l x' 1 fun a => stP a v w K := by
  subst hx'
  rcases h.2 with ⟨hs, hn⟩ | ⟨g, cap, cur, hs, hb, hg, hnc, hcm, hcs, htake⟩
  · omega
  · have hs' := hs
    injection hs with e1 e2 e3
    refine idxP_intro (by omega) (by omega) e1 ?_
    have hxs : x < cur.size := by rw [hcs]; omega
    rw [Int.toNat_natCast, Nat.mul_one]
    refine stB hg hxs fun w' hc hb' hz => hK w' ⟨by rw [List.length_set]; exact h.1, .inr ⟨g, cap, _, hs', hb, hb', hnc, hcm, by simpa using hcs, ?_⟩⟩ (by simpa [blkOf, e1] using hc) hz
    rw [Array.toList_setIfInBounds, List.take_set, htake]
theorem Own.st2' {w : World} {e : TypeId} {s : Slc} {vs : List Value} {x : Nat} {x' : Int} {v0 v1 : Value} {K : World → Prop} (h : Own w e 2 s vs) (hx : x < s.l) (hx' : x' = (x : Int))
    (hK : ∀ w', Own w' e 2 s ((vs.set (x * 2) v0).set (x * 2 + 1) v1) → Ch [blkOf s] w w' → w'.heap.size = w.heap.size → K w') : idxP s.a s.l x' 2 fun a => stP a v0 w fun w1 => stP (a.add 1) v1 w1 K := by
  subst hx'
  rcases h.2 with ⟨hs, hn⟩ | ⟨g, cap, cur, hs, hb, hg, hnc, hcm, hcs, htake⟩
  · omega
  · have hs' := hs
    injection hs with e1 e2 e3
    refine idxP_intro (by omega) (by omega) e1 ?_
    rw [Int.toNat_natCast]
    refine stB hg (by omega) fun w1 hc1 hb1 hz1 => ?_
    rw [Deep.add_add]
    refine stB hb1 (by simp; omega) fun w' hc hb' hz => hK w' ⟨by rw [List.length_set, List.length_set]; exact h.1, .inr ⟨g, cap, _, hs', hb, hb', hnc, hcm, by simpa using hcs, ?_⟩⟩ (by simpa [blkOf, e1] using hc1.tr hc) (by omega)
    rw [Array.toList_setIfInBounds, List.take_set, Array.toList_setIfInBounds, List.take_set, htake]
theorem flat_set : ∀ (cs : List (Int × Int)) (i : Nat) (p : Int × Int), ((flat cs).set (i * 2) (.int .i64 p.1)).set (i * 2 + 1) (.int .i64 p.2) = flat (cs.set i p)
  | [], i, p => rfl
  | y :: cs, 0, p => rfl
  | y :: cs, i + 1, p => by
    have := flat_set cs i p
    show ((Value.int .i64 y.1 :: .int .i64 y.2 :: flat cs).set ((i + 1) * 2) _).set ((i + 1) * 2 + 1) _ = Value.int .i64 y.1 :: .int .i64 y.2 :: flat (cs.set i p)
    rw [show (i + 1) * 2 = i * 2 + 1 + 1 by omega]
    simp only [List.set_cons_succ]
    rw [this]
theorem flat_append (a b : List (Int × Int)) : flat (a ++ b) = flat a ++ flat b := List.flatMap_append
/-- A slice whose elements' cells are these. -/
structure RdQ (w : World) (sz : Nat) (s : Slc) (vs : List Value) : Prop where
  len : vs.length = s.l * sz
  cap : s.l ≤ s.c
  at_ : ∀ j v, vs[j]? = some v → ∃ ad, s.a = some ad ∧ w.cell? (ad.add j) = some v
theorem RdQ.chg {w w' : World} {S : Nat → Prop} {sz : Nat} {s : Slc} {vs : List Value} (h : RdQ w sz s vs) (hc : Chg S w w') (hn : ∀ b, blkOf s = some b → ¬ S b) : RdQ w' sz s vs :=
  ⟨h.len, h.cap, fun j v hv => by
    obtain ⟨ad, ha, hx⟩ := h.at_ j v hv
    exact ⟨ad, ha, cell_chg hc hx (by rw [add_block]; exact hn _ (by simp [blkOf, ha]))⟩⟩
theorem RdQ.ch0 {w w' : World} {sz : Nat} {s : Slc} {vs : List Value} (h : RdQ w sz s vs) (hc : Ch [] w w') : RdQ w' sz s vs := h.chg hc fun _ _ h => h
theorem Own.cell {w : World} {e : TypeId} {sz : Nat} {s : Slc} {vs : List Value} (h : Own w e sz s vs) {j : Nat} {v : Value} (hv : vs[j]? = some v) : ∃ ad, s.a = some ad ∧ w.cell? (ad.add j) = some v := by
  have hj := (List.getElem?_eq_some_iff.1 hv).1
  have hlen := h.len
  rcases h.2 with ⟨hs, hn⟩ | ⟨g, cap, cur, hs, hb, hg, hnc, hcm, hcs, htake⟩
  · rw [hn] at hlen; omega
  · injection hs with e1 e2 e3
    exact ⟨_, e1, h.cellAt e1 hv⟩
theorem Own.rdQ {w : World} {e : TypeId} {sz : Nat} {s : Slc} {vs : List Value} (h : Own w e sz s vs) : RdQ w sz s vs := by
  refine ⟨h.len, ?_, fun j v hv => h.cell hv⟩
  rcases h.2 with ⟨hs, hn⟩ | ⟨g, cap, cur, hs, hb, hg, hnc, hcm, hcs, htake⟩
  · injection hs with e1 e2 e3; omega
  · injection hs with e1 e2 e3; omega
theorem RdQ.idx {w : World} {s : Slc} {cs : List (Int × Int)} (h : RdQ w 2 s (flat cs)) {i : Nat} {i' : Int} {c : Int × Int} {K : Addr → Prop} (hi' : i' = (i : Int)) (hc : cs[i]? = some c)
    (hK : ∀ ad, w.cell? ad = some (.int .i64 c.1) → w.cell? (ad.add 1) = some (.int .i64 c.2) → K ad) : idxP s.a s.l i' 2 K := by
  subst hi'
  obtain ⟨e1, e2⟩ := flat_at _ _ _ hc
  obtain ⟨ad, ha, c1⟩ := h.at_ _ _ e1
  obtain ⟨ad', ha', c2⟩ := h.at_ _ _ e2
  rw [ha] at ha'; cases ha'
  have hl := h.len
  rw [flat_length] at hl
  have hi := (List.getElem?_eq_some_iff.1 hc).1
  exact ⟨by omega, by omega, ad, ha, by rw [Int.toNat_natCast]; exact hK _ c1 (by rw [Deep.add_add]; exact c2)⟩
/-- What a slice reads as stays, while the one that grew out of it is written on. -/
structure Kpt (w : World) (sz : Nat) (q s : Slc) (us : List Value) : Prop where
  rd : RdQ w sz q us
  at_ : (q.a = s.a ∧ q.l ≤ s.l) ∨ Dj (blkOf q) (blkOf s)
theorem Kpt.grow {w w' : World} {sz : Nat} {q s s' : Slc} {us : List Value} (h : Kpt w sz q s us) (hql : ∀ k, blkOf q = some k → k < w.heap.size) (hg : Gr s w s' w') (hl : s'.l = s.l + 1)
    (hk : ∀ ad, s.a = some ad → ∀ j v, j < s.l * sz → w.cell? (ad.add j) = some v → w'.cell? (ad.add j) = some v) (hn : s'.a = s.a ∨ Ge w.heap.size (blkOf s')) : Kpt w' sz q s' us := by
  obtain ⟨g1, g2⟩ := hg.ch
  rcases h.at_ with ⟨ha, hle⟩ | hd
  · refine ⟨⟨h.rd.len, h.rd.cap, fun j v hv => ?_⟩, ?_⟩
    · obtain ⟨ad, h1, h2⟩ := h.rd.at_ j v hv
      have hj := (List.getElem?_eq_some_iff.1 hv).1
      have := h.rd.len
      have hm : q.l * sz ≤ s.l * sz := Nat.mul_le_mul_right _ hle
      exact ⟨ad, h1, hk ad (by rw [← ha]; exact h1) j v (by omega) h2⟩
    · rcases hn with e | e
      · exact .inl ⟨by rw [ha, e], by omega⟩
      · refine .inr fun k k1 k2 => ?_
        have := hql k k1
        have := e k k2
        omega
  · refine ⟨h.rd.chg g1 fun k hk hin => hd k hk (Eq.symm (show some k = blkOf s from hin)), .inr fun k k1 k2 => ?_⟩
    rcases g2 k k2 with e | e
    · exact hd k k1 e
    · have := hql k k1; omega
theorem Kpt.chg {w w' : World} {L : List (Option Nat)} {sz : Nat} {q s : Slc} {us : List Value} (h : Kpt w sz q s us) (hc : Ch L w w') (hn : ∀ k, blkOf q = some k → ¬ inL L k) : Kpt w' sz q s us := ⟨h.rd.chg hc hn, h.at_⟩
theorem OL.chgS {S : Nat → Prop} {n tp ti : Nat} {w w' : World} {s : Slc} {ps : List Pc} {css : List Slc} (h : OL n tp ti w s ps css) (hc : Chg S w w') (hn : ∀ k, n ≤ k → ¬ S k) : OL n tp ti w' s ps css :=
  ⟨h.own.chg hc fun k hk => hn k (h.ns k hk), h.len, fun i x cs h1 h2 => ⟨(h.code i x cs h1 h2).1.chg hc fun k hk => hn k (h.nc cs (List.mem_of_getElem? h2) k hk), (h.code i x cs h1 h2).2⟩, h.dj, h.sep, h.ns, h.nc, h.nul⟩
def slV (s : Slc) : Value := .slice s.a s.l s.c
def markL (j n : Nat) : List (Int × Int) := (List.range n).map fun (k : Nat) => (-1 - (j : Int), (k : Int))
theorem markL_len (j n : Nat) : (markL j n).length = n := by simp [markL]
theorem markL_at {j n k : Nat} (h : k < n) : (markL j n)[k]? = some (-1 - (j : Int), (k : Int)) := by simp [markL, h]
/-- The slice of code in a procedure of a library of its own. -/
theorem arr_code {tp : TypeId} {w : World} {s : Slc} {ps : List Pc} {css : List Slc} (ho : Own w tp 6 s (cellsL ps css)) (hl : ps.length = css.length) {j : Nat} {cs : Slc} (hj : css[j]? = some cs) {x' : Int} (hx : x' = (j : Int)) {K : Slc → Prop} (hK : K cs) :
    idxP s.a s.l x' 6 fun a => ldS ((a.add 1).add 4) w K := by
  subst hx
  have hi := (List.getElem?_eq_some_iff.1 hj).1
  have hp : ps[j]? = some (ps[j]'(by omega)) := by simp
  obtain ⟨ad, ha, hc⟩ := ho.cell (j := j * 6 + 5) (v := slV cs) (by rw [cellsL_at hp hj (by omega)]; rfl)
  have h1 := ho.len
  rw [cellsL_len hl] at h1
  exact ⟨by omega, by omega, ad, ha, by
    rw [Int.toNat_natCast]
    show ldS (((ad.add (j * 6)).add 1).add 4) w K
    rw [Deep.add_add, Deep.add_add]
    exact ldS_of hc hK⟩
theorem row_at {e : TypeId} {w : World} {s : Slc} {G : Nat → Slc} {n j : Nat} (ho : Own w e 1 s ((List.range n).map fun j => slV (G j))) (hj : j < n) {x' : Int} (hx : x' = (j : Int)) {K : Slc → Prop} (hK : K (G j)) : idxP s.a s.l x' 1 fun a => ldS a w K := by
  subst hx
  obtain ⟨ad, ha, hc⟩ := ho.cell (j := j) (v := slV (G j)) (by simp [hj])
  have h1 := ho.len
  simp at h1
  exact ⟨by omega, by omega, ad, ha, by rw [Int.toNat_natCast, Nat.mul_one]; exact ldS_of hc hK⟩
end Go.Pl
namespace Go.Proofs.YtgpdecfcjpblgaaDoor
open Go Go.Sh Go.Pl Go.RowKit Go.Lang Go.Names Go.Num Go.Gt
theorem TSl : ElT Tryd.prog 81 39 (.slice none 0 0) 1 24 := ⟨by kernel_rfl, by kernel_rfl, rfl, by decide⟩
set_option maxRecDepth 20000 in
set_option maxHeartbeats 4000000 in
theorem apartL_ok {np nq nw : Nat} {p q l : Slc} {ps qs : List Pc} {cp cq cw : List Slc} {w : World} {K : Bool → World → Prop} (hp : OL np 43 80 w p ps cp) (hq : OL nq 43 80 w q qs cq) (hw : OL nw 43 80 w l qs cw)
    (hpq : ∀ cs ∈ cp, ∀ k, blkOf cs = some k → k < nq ∧ k < nw) (hL : ps.length ≤ 64) (hQ : qs.length ≤ 1000000) (hK : ∀ w', Chg (fun k => np ≤ k) w w' → K true w') : c_preludelaw03_apart p q l w K := by
  refine sim_preludelaw03_apart ?_
  unfold sh_preludelaw03_apart
  have hlen := hp.len
  have hpl := hp.slen
  obtain ⟨hlp, hlc⟩ := hp.lt
  have hCL : ∀ j (hj : j < ps.length), ∃ cs, cp[j]? = some cs := fun j hj => ⟨_, List.getElem?_eq_getElem (by omega)⟩
  let C : Nat → Slc := fun j => (cp[j]?).getD ⟨none, 0, 0⟩
  let ln : Nat → Nat := fun j => ((ps[j]?).map fun x => x.p.l.length).getD 0
  have hC : ∀ j, j < ps.length → cp[j]? = some (C j) := fun j hj => by obtain ⟨cs, h⟩ := hCL j hj; simp only [C, h]; rfl
  have hCm : ∀ j, j < ps.length → C j ∈ cp := fun j hj => List.mem_of_getElem? (hC j hj)
  have hO : ∀ j, j < ps.length → ∃ V : List (Int × Int), V.length = ln j ∧ Own w 80 2 (C j) (flat V) := fun j hj => by
    have hx : ps[j]? = some ps[j] := by simp
    exact ⟨_, by simp only [ln, hx]; rfl, (hp.code j _ _ hx (hC j hj)).1⟩
  have hln : ∀ j, j < ps.length → ln j ≤ 1000 := fun j hj => by
    have hx : ps[j]? = some ps[j] := by simp
    have := (hp.code j _ _ hx (hC j hj)).2
    simp only [ln, hx]; exact this
  have hCl : ∀ j, j < ps.length → (C j).l = ln j := fun j hj => by
    obtain ⟨V, h1, h2⟩ := hO j hj
    have := h2.len
    rw [flat_length] at this; omega
  have hsep : ∀ i j, i < ps.length → j < ps.length → i ≠ j → Dj (blkOf (C i)) (blkOf (C j)) := by
    have key : ∀ i j, i < j → j < ps.length → Dj (blkOf (C i)) (blkOf (C j)) := fun i j hij hj => by
      have := List.pairwise_iff_getElem.1 hp.sep i j (by omega) (by omega) hij
      obtain ⟨_, e1⟩ := List.getElem?_eq_some_iff.1 (hC i (by omega))
      obtain ⟨_, e2⟩ := List.getElem?_eq_some_iff.1 (hC j hj)
      rwa [e1, e2] at this
    intro i j hi hj hne
    rcases Nat.lt_or_ge i j with h | h
    · exact key i j h hj
    · exact fun k k1 k2 => key j i (by omega) hi k k2 k1
  have hClt : ∀ j, j < ps.length → ∀ k, blkOf (C j) = some k → k < w.heap.size := fun j hj k hk => hlc _ (hCm j hj) k hk
  have hpC : ∀ j, j < ps.length → ∀ k, blkOf (C j) = some k → blkOf p ≠ some k := fun j hj k hk hk' => hp.dj _ (hCm j hj) k hk hk'
  have hpo : ∀ {w' : World}, Chg (fun k => ∃ j, j < ps.length ∧ blkOf (C j) = some k) w w' → Own w' 43 6 p (cellsL ps cp) := fun hc => hp.own.chg hc fun k hk ⟨j, hj, hk'⟩ => hpC j hj k hk' hk
  have hVs : ∃ V : Nat → List (Int × Int), ∀ j, j < ps.length → (V j).length = ln j ∧ Own w 80 2 (C j) (flat (V j)) :=
    ⟨fun j => if hj : j < ps.length then (hO j hj).choose else [], fun j hj => by simp only [hj, dif_pos]; exact (hO j hj).choose_spec⟩
  obtain ⟨V0, hV0⟩ := hVs
  -- the codes are written full
  refine loopP_inv (fun st w' => ∃ (i : Nat) (V : Nat → List (Int × Int)), st.1 = (i : Int) ∧ i ≤ ps.length ∧ (∀ j, j < ps.length → (V j).length = ln j ∧ Own w' 80 2 (C j) (flat (V j))) ∧ (∀ j, j < i → V j = markL j (ln j)) ∧ Chg (fun k => ∃ j, j < ps.length ∧ blkOf (C j) = some k) w w') (fun st _ => ps.length - st.1.toNat)
    ⟨0, V0, rfl, Nat.zero_le _, hV0, fun j hj => absurd hj (by omega), Chg.refl _ _⟩ ?_
  rintro ⟨i0, u⟩ w3 next ⟨i, V, rfl, hi, hV, hM, hc3⟩ hnext
  dsimp only
  refine iteB_dec (fun h => ?_) fun h => ?_
  · have hlt : i < ps.length := by omega
    refine loopP_inv (fun st w' => ∃ (k : Nat) (V : Nat → List (Int × Int)), st.1 = (k : Int) ∧ k ≤ ln i ∧ (∀ j, j < ps.length → (V j).length = ln j ∧ Own w' 80 2 (C j) (flat (V j))) ∧ (∀ j, j < i → V j = markL j (ln j)) ∧ (∀ t : Nat, t < k → (V i)[t]? = some (-1 - (i : Int), (t : Int))) ∧ Chg (fun k => ∃ j, j < ps.length ∧ blkOf (C j) = some k) w w') (fun st _ => ln i - st.1.toNat)
      ⟨0, V, rfl, Nat.zero_le _, hV, hM, fun t ht => absurd ht (by omega), hc3⟩ ?_
    clear hV hM hc3
    rintro ⟨k0, u⟩ w4 next4 ⟨k, V, rfl, hk, hV, hM, hT, hc4⟩ hnext4
    dsimp only
    have hli := hln i hlt
    refine arr_code (hpo hc4) hlen (hC i hlt) rfl ?_
    have hcl := hCl i hlt
    refine iteB_dec (fun h2 => ?_) fun h2 => ?_
    · refine arr_code (hpo hc4) hlen (hC i hlt) rfl ?_
      rw [wrap_i64 (by omega), wrap_i64 (by omega)]
      refine (hV i hlt).2.st2' (x := k) (by omega) rfl fun w5 ho5 hc5 hz5 => ?_
      have e := flat_set (V i) k (-1 - (i : Int), (k : Int))
      dsimp only at e
      rw [e] at ho5
      refine hnext4 _ _ ⟨k + 1, fun j => if j = i then (V i).set k (-1 - (i : Int), (k : Int)) else V j, by simp, by omega, fun j hj => ?_, fun j hj => ?_, fun t ht => ?_, hc4.step hc5 fun b hb hin => ⟨i, hlt, Eq.symm (show some b = blkOf (C i) from hin)⟩⟩ (by simp; omega)
      · dsimp only
        by_cases e : j = i
        · subst e
          rw [if_pos rfl]
          exact ⟨by rw [List.length_set]; exact (hV j hj).1, ho5⟩
        · rw [if_neg e]
          exact ⟨(hV j hj).1, (hV j hj).2.ch hc5 fun b hb hin => hsep j i hj hlt e b hb (Eq.symm (show some b = blkOf (C i) from hin))⟩
      · dsimp only
        rw [if_neg (by omega)]; exact hM j hj
      · dsimp only
        rw [if_pos rfl, List.getElem?_set]
        split
        · rename_i ej; subst ej; rw [if_pos (by rw [(hV i hlt).1]; omega)]
        · exact hT t (by omega)
    · have hke : k = ln i := by omega
      subst hke
      rw [wrap_i64 (by omega)]
      refine hnext _ _ ⟨i + 1, V, by simp, hlt, hV, fun j hj => ?_, hc4⟩ (by simp; omega)
      rcases Nat.lt_or_ge j i with hji | hji
      · exact hM j hji
      · have e : j = i := by omega
        subst e
        apply List.ext_getElem?
        intro t
        rcases Nat.lt_or_ge t (ln j) with ht | ht
        · rw [hT t ht, markL_at ht]
        · rw [List.getElem?_eq_none (by rw [(hV j hlt).1]; exact ht), List.getElem?_eq_none (by rw [markL_len]; exact ht)]
  have hie : i = ps.length := by omega
  subst hie
  clear hnext h hi
  replace hV : ∀ j, j < ps.length → Own w3 80 2 (C j) (flat (markL j (ln j))) := fun j hj => by rw [← hM j hj]; exact (hV j hj).2
  clear hM V hV0 V0
  have z3 := hc3.size
  -- the list of the codes
  refine loopP_inv (fun st w' => ∃ (i : Nat), st.2.1 = (i : Int) ∧ i ≤ ps.length ∧ Own w' 39 1 st.1 ((List.range i).map fun j => slV (C j)) ∧ Ge w3.heap.size (blkOf st.1) ∧ Ch [] w3 w') (fun st _ => ps.length - st.2.1.toNat)
    ⟨0, rfl, Nat.zero_le _, Own.nil _ _ _, fun k hk => by (cases hk), Ch.refl _ _⟩ ?_
  rintro ⟨m, i0, u⟩ w4 next ⟨i, rfl, hi, hm, hgm, hc4⟩ hnext
  dsimp only at hm hgm ⊢
  have hc04 : Chg (fun k => ∃ j, j < ps.length ∧ blkOf (C j) = some k) w w4 := hc3.step hc4 fun _ _ h => h.elim
  have lm := hm.rd.len
  simp at lm
  refine iteB_dec (fun h => ?_) fun h => ?_
  · have hlt : i < ps.length := by omega
    refine arr_code (hpo hc04) hlen (hC i hlt) rfl ?_
    refine apB TSl (cells := #[.slice (C i).a (C i).l (C i).c]) rfl (by simp; rfl) hm (by omega) (by omega) fun s' w5 ho hl' hg => ?_
    obtain ⟨g1, g2⟩ := hg.ch
    rw [wrap_i64 (by omega)]
    refine hnext _ _ ⟨i + 1, by simp, by omega, ?_, fun k hk => ?_, hc4.trO g1 hgm⟩ (by simp; omega)
    · rw [List.range_succ, List.map_append]; exact ho
    · rcases g2 k hk with h | h
      · exact hgm k h
      · have := hc4.size; omega
  have hie : i = ps.length := by omega
  subst hie
  clear hnext h hi
  have mlt := hm.lt
  have z4 := hc4.size
  -- all grow
  have hinit : ∃ (G : Nat → Slc) (U : Nat → List (Int × Int)), (∀ j, j < ps.length → Own w4 80 2 (G j) (flat (markL j (ln j) ++ U j)) ∧ (∀ u ∈ U j, u.1 = -1000 - (j : Int)) ∧ (U j).length ≤ 0 ∧ Kpt w4 2 (C j) (G j) (flat (markL j (ln j))) ∧ (∀ k, blkOf (G j) = some k → blkOf (C j) = some k ∨ w.heap.size ≤ k)) ∧
      (∀ i j, i < ps.length → j < ps.length → i ≠ j → Dj (blkOf (G i)) (blkOf (G j))) ∧ Own w4 39 1 m ((List.range ps.length).map fun j => slV (G j)) ∧ (∀ j, j < ps.length → Dj (blkOf m) (blkOf (G j))) :=
    ⟨C, fun _ => [], fun j hj => ⟨by rw [List.append_nil]; exact (hV j hj).ch0 hc4, fun u hu => (by cases hu), Nat.le_refl _, ⟨((hV j hj).ch0 hc4).rdQ, .inl ⟨rfl, Nat.le_refl _⟩⟩, fun k hk => .inl hk⟩, hsep, hm, fun j hj k k1 k2 => by
      have := hgm k k1
      have := hClt j hj k k2
      omega⟩
  obtain ⟨G, U, hG, hGG, hmG, hmD⟩ := hinit
  clear hV hm
  let Inv : Nat → World → Prop := fun i w' => True
  have hgm' : ∀ k, blkOf m = some k → w.heap.size ≤ k := fun k hk => by have := hgm k hk; omega
  refine loopP_inv (fun st w' => ∃ (n : Nat) (G : Nat → Slc) (U : Nat → List (Int × Int)), st.1 = (n : Int) ∧ n ≤ 40 ∧ (∀ j, j < ps.length → Own w' 80 2 (G j) (flat (markL j (ln j) ++ U j)) ∧ (∀ u ∈ U j, u.1 = -1000 - (j : Int)) ∧ (U j).length ≤ n ∧ Kpt w' 2 (C j) (G j) (flat (markL j (ln j))) ∧ (∀ k, blkOf (G j) = some k → blkOf (C j) = some k ∨ w.heap.size ≤ k)) ∧
      (∀ i j, i < ps.length → j < ps.length → i ≠ j → Dj (blkOf (G i)) (blkOf (G j))) ∧ Own w' 39 1 m ((List.range ps.length).map fun j => slV (G j)) ∧ (∀ j, j < ps.length → Dj (blkOf m) (blkOf (G j))) ∧ Chg (fun k => ∃ j, j < ps.length ∧ blkOf (C j) = some k) w w' ∧ w4.heap.size ≤ w'.heap.size) (fun st _ => 40 - st.1.toNat)
    ⟨0, G, U, rfl, by omega, hG, hGG, hmG, hmD, hc04, Nat.le_refl _⟩ ?_
  clear hG hGG hmG hmD G U
  rintro ⟨n0, u⟩ w5 next ⟨n, G, U, rfl, hn, hG, hGG, hmG, hmD, hc5, hz5⟩ hnext
  dsimp only
  refine iteB_dec (fun h => ?_) fun h => ?_
  · refine loopP_inv (fun st w' => ∃ (i : Nat) (G : Nat → Slc) (U : Nat → List (Int × Int)), st.1 = (i : Int) ∧ i ≤ ps.length ∧ (∀ j, j < ps.length → Own w' 80 2 (G j) (flat (markL j (ln j) ++ U j)) ∧ (∀ u ∈ U j, u.1 = -1000 - (j : Int)) ∧ (U j).length ≤ n + (if j < i then 1 else 0) ∧ Kpt w' 2 (C j) (G j) (flat (markL j (ln j))) ∧ (∀ k, blkOf (G j) = some k → blkOf (C j) = some k ∨ w.heap.size ≤ k)) ∧
        (∀ i j, i < ps.length → j < ps.length → i ≠ j → Dj (blkOf (G i)) (blkOf (G j))) ∧ Own w' 39 1 m ((List.range ps.length).map fun j => slV (G j)) ∧ (∀ j, j < ps.length → Dj (blkOf m) (blkOf (G j))) ∧ Chg (fun k => ∃ j, j < ps.length ∧ blkOf (C j) = some k) w w' ∧ w4.heap.size ≤ w'.heap.size) (fun st _ => ps.length - st.1.toNat)
      ⟨0, G, U, rfl, Nat.zero_le _, fun j hj => ⟨(hG j hj).1, (hG j hj).2.1, by have := (hG j hj).2.2.1; omega, (hG j hj).2.2.2⟩, hGG, hmG, hmD, hc5, hz5⟩ ?_
    clear hG hGG hmG hmD hc5 hz5 G U
    rintro ⟨i0, u⟩ w6 next6 ⟨i, G, U, rfl, hi, hG, hGG, hmG, hmD, hc6, hz6⟩ hnext6
    dsimp only
    refine iteB_dec (fun h6 => ?_) fun h6 => ?_
    · have hlt : i < ps.length := by omega
      refine row_at hmG hlt rfl ?_
      obtain ⟨q1, q2, q3, q4, q5⟩ := hG i hlt
      rw [if_neg (by omega)] at q3
      have lG := q1.len
      rw [flat_length, List.length_append, markL_len] at lG
      have hli := hln i hlt
      rw [wrap_i64 (by omega), wrap_i64 (by omega)]
      refine apB_keep TIn (cells := #[.int .i64 (-1000 - (i : Int)), .int .i64 (n : Int)]) rfl (by simp; exact ⟨rfl, rfl⟩) q1 (by omega) (by omega) fun s' w7 ho7 hl7 hg7 hk7 hn7 => ?_
      obtain ⟨g1, g2⟩ := hg7.ch
      have z6 := hc6.size
      have z7 := g1.size
      have Glt : ∀ j, j < ps.length → ∀ k, blkOf (G j) = some k → k < w6.heap.size := fun j hj k hk => (hG j hj).1.lt k hk
      have hmG7 := hmG.ch g1 fun k hk hin => hmD i hlt k hk (Eq.symm (show some k = blkOf (G i) from hin))
      have mlt6 := hmG.lt
      have lmm := hmG.rd.len
      simp at lmm
      refine hmG7.st1' (x := i) (by omega) rfl fun w8 hm8 hc8 hz8 => ?_
      have Dm' : Dj (blkOf m) (blkOf s') := fun k k1 k2 => by
        rcases g2 k k2 with e | e
        · exact hmD i hlt k k1 e
        · have := mlt6 k k1; omega
      have em : ((List.range ps.length).map fun j => slV (G j)).set i (.slice s'.a s'.l s'.c) = (List.range ps.length).map fun j => slV (if j = i then s' else G j) := by
        apply List.ext_getElem?
        intro t
        rw [List.getElem?_set]
        split
        · rename_i e
          subst e
          simp [hlt, slV]
        · rename_i e
          rw [List.getElem?_map, List.getElem?_map]
          rcases Nat.lt_or_ge t ps.length with ht | ht
          · simp [ht, Ne.symm e]
          · simp [ht]
      rw [em] at hm8
      refine hnext6 _ _ ⟨i + 1, fun j => if j = i then s' else G j, fun j => if j = i then U i ++ [(-1000 - (i : Int), (n : Int))] else U j, by simp, by omega, fun j hj => ?_, fun j j' hj hj' hne => ?_, hm8, fun j hj => ?_, (hc6.step g1 fun k hk hin => ?_).step hc8 fun k hk hin => ?_, by have := hc8.size; omega⟩ (by simp; omega)
      · dsimp only
        by_cases e : j = i
        · subst e
          rw [if_pos rfl, if_pos rfl]
          refine ⟨?_, fun u hu => ?_, ?_, (q4.grow (fun k hk => by have := hClt j hj k hk; omega) hg7 hl7 hk7 hn7).chg hc8 fun k hk hin => ?_, fun k hk => ?_⟩
          · have e2 : flat (markL j (ln j) ++ (U j ++ [(-1000 - (j : Int), (n : Int))])) = flat (markL j (ln j) ++ U j) ++ [.int .i64 (-1000 - (j : Int)), .int .i64 (n : Int)] := by rw [← List.append_assoc, flat_append]; rfl
            rw [e2]
            exact ho7.ch hc8 fun k hk hin => Dm' k (Eq.symm (show some k = blkOf m from hin)) hk
          · rcases List.mem_append.1 hu with hu | hu
            · exact q2 u hu
            · simp at hu; subst hu; rfl
          · rw [if_pos (by omega), List.length_append]; simp; omega
          · have := hgm' k (Eq.symm (show some k = blkOf m from hin)); have := hClt j hj k hk; omega
          · rcases g2 k hk with e | e
            · exact q5 k e
            · exact .inr (by omega)
        · rw [if_neg e, if_neg e]
          obtain ⟨p1, p2, p3, p4, p5⟩ := hG j hj
          refine ⟨(p1.ch g1 fun k hk hin => hGG j i hj hlt e k hk (Eq.symm (show some k = blkOf (G i) from hin))).ch hc8 fun k hk hin => hmD j hj k (Eq.symm (show some k = blkOf m from hin)) hk, p2, ?_, (p4.chg g1 fun k hk hin => ?_).chg hc8 fun k hk hin => ?_, p5⟩
          · split at p3 <;> split <;> omega
          · have hin : blkOf (G i) = some k := Eq.symm (show some k = blkOf (G i) from hin)
            rcases q5 k hin with e' | e'
            · exact hsep j i hj hlt e k hk e'
            · have := hClt j hj k hk; omega
          · have := hgm' k (Eq.symm (show some k = blkOf m from hin)); have := hClt j hj k hk; omega
      · have new : ∀ t, t < ps.length → t ≠ i → Dj (blkOf s') (blkOf (G t)) := fun t ht hti k k1 k2 => by
          rcases g2 k k1 with e | e
          · exact hGG i t hlt ht (Ne.symm hti) k e k2
          · have := Glt t ht k k2; omega
        dsimp only
        by_cases e : j = i
        · have e' : j' ≠ i := fun e' => hne (by rw [e, e'])
          rw [if_pos e, if_neg e']
          exact new j' hj' e'
        · rw [if_neg e]
          by_cases e' : j' = i
          · rw [if_pos e']
            exact fun k k1 k2 => new j hj e k k2 k1
          · rw [if_neg e']
            exact hGG j j' hj hj' hne
      · dsimp only
        by_cases e : j = i
        · rw [if_pos e]; exact Dm'
        · rw [if_neg e]; exact hmD j hj
      · have hin : blkOf (G i) = some k := Eq.symm (show some k = blkOf (G i) from hin)
        rcases q5 k hin with e' | e'
        · exact ⟨i, hlt, e'⟩
        · omega
      · have := hgm' k (Eq.symm (show some k = blkOf m from hin)); omega
    · have hie : i = ps.length := by omega
      subst hie
      rw [wrap_i64 (by omega)]
      refine hnext _ _ ⟨n + 1, G, U, by simp, by omega, fun j hj => ⟨(hG j hj).1, (hG j hj).2.1, ?_, (hG j hj).2.2.2⟩, hGG, hmG, hmD, hc6, hz6⟩ (by simp; omega)
      have := (hG j hj).2.2.1
      rw [if_pos hj] at this
      exact this
  clear hnext h
  -- what is read
  refine loopP_inv (fun st w' => ∃ (i : Nat), st.1 = (i : Int) ∧ i ≤ ps.length ∧ Ch [] w5 w') (fun st _ => ps.length - st.1.toNat) ⟨0, rfl, Nat.zero_le _, Ch.refl _ _⟩ ?_
  rintro ⟨i0, u⟩ w6 next ⟨i, rfl, hi, hc6⟩ hnext
  dsimp only
  have hc06 : Chg (fun k => ∃ j, j < ps.length ∧ blkOf (C j) = some k) w w6 := hc5.step hc6 fun _ _ h => h.elim
  refine iteB_dec (fun h => ?_) fun h => ?_
  · have hlt : i < ps.length := by omega
    refine arr_code (hpo hc06) hlen (hC i hlt) rfl ?_
    obtain ⟨q1, q2, q3, q4, q5⟩ := hG i hlt
    have lG := q1.len
    rw [flat_length, List.length_append, markL_len] at lG
    have hli := hln i hlt
    have hcl := hCl i hlt
    refine loopP_inv (fun st w' => ∃ (k : Nat), st.1 = (k : Int) ∧ k ≤ (G i).l ∧ Ch [] w5 w') (fun st _ => (G i).l - st.1.toNat) ⟨0, rfl, Nat.zero_le _, hc6⟩ ?_
    rintro ⟨k0, u⟩ w7 next7 ⟨k, rfl, hk, hc7⟩ hnext7
    dsimp only
    have d7 : Ch [] w5 w7.drew := hc7.tr (Ch.drew _)
    refine row_at (hmG.ch0 hc7) hlt rfl ?_
    refine iteB_dec (fun h7 => ?_) fun h7 => ?_
    · have hnx : ∀ {w' : World}, Ch [] w5 w' → next7 ((IntKind.i64.wrap ((k : Int) + 1)), ()) w' := fun hc' => by
        rw [wrap_i64 (by omega)]
        exact hnext7 _ _ ⟨k + 1, by simp, by omega, hc'⟩ (by simp; omega)
      refine iteB_dec (fun h8 => ?_) fun h8 => ?_
      · have hkl : k < ln i := by omega
        have hat := markL_at (j := i) hkl
        refine (q4.rd.ch0 d7).idx rfl hat fun ad c1 c2 => ?_
        refine ldI_of c1 (ldI_of c2 ?_)
        rw [wrap_i64 (by omega)]
        refine ⟨_, w7.drew, neq_instr _ _ _ _ _ _ _, ?_⟩
        refine iteB_neg (by simp) ?_
        refine row_at (hmG.ch0 d7) hlt rfl ?_
        have hat2 : (markL i (ln i) ++ U i)[k]? = some (-1 - (i : Int), (k : Int)) := by rw [List.getElem?_append_left (by rw [markL_len]; exact hkl)]; exact hat
        refine (q1.rdQ.ch0 d7).idx rfl hat2 fun ad2 c3 c4 => ?_
        refine ldI_of c3 (ldI_of c4 ?_)
        refine (q4.rd.ch0 d7).idx rfl hat fun ad3 c5 c6 => ?_
        refine ldI_of c5 (ldI_of c6 ?_)
        refine ⟨_, w7.drew, neq_instr _ _ _ _ _ _ _, ?_⟩
        refine iteB_neg (by simp) ?_
        refine iteB_neg (decide_eq_false (by omega)) ?_
        exact hnx d7
      · refine iteB_pos (by rw [decide_eq_true (by omega)]) ?_
        refine row_at (hmG.ch0 d7) hlt rfl ?_
        have hkU : k - ln i < (U i).length := by omega
        have hu : (U i)[k - ln i]? = some (U i)[k - ln i] := by simp
        have hm' := q2 _ (List.mem_of_getElem? hu)
        generalize (U i)[k - ln i] = uu at hu hm'
        have hat2 : (markL i (ln i) ++ U i)[k]? = some uu := by rw [List.getElem?_append_right (by rw [markL_len]; omega), markL_len]; exact hu
        refine (q1.rdQ.ch0 d7).idx rfl hat2 fun ad2 c3 c4 => ?_
        refine ldI_of c3 ?_
        rw [wrap_i64 (by omega), hm']
        refine iteB_neg (by simp) ?_
        exact hnx d7
    · rw [wrap_i64 (by omega)]
      exact hnext _ _ ⟨i + 1, by simp, by omega, hc7⟩ (by simp; omega)
  · have hn1 : ∀ k, nq ≤ k → ¬ (∃ j, j < ps.length ∧ blkOf (C j) = some k) := fun k hk ⟨j, hj, hk'⟩ => by have := (hpq _ (hCm j hj) k hk').1; omega
    have hn2 : ∀ k, nw ≤ k → ¬ (∃ j, j < ps.length ∧ blkOf (C j) = some k) := fun k hk ⟨j, hj, hk'⟩ => by have := (hpq _ (hCm j hj) k hk').2; omega
    refine sameLib_ok (hq.chgS hc06 hn1).rdL (hw.chgS hc06 hn2).rdL (by omega) fun w8 hc8 => ?_
    refine hK w8 ((hc06.mono fun k hk ⟨j, hj, hk'⟩ => hp.nc _ (hCm j hj) k hk').step hc8 fun _ _ h => h.elim)
end Go.Proofs.YtgpdecfcjpblgaaDoor
