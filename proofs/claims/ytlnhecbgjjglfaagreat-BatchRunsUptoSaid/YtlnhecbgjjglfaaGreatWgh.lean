/- Wgh: a batch's weight, its sets of writes; the law BatchWeighs. -/
import Derived.Test.YtlnhecbgjjglfaaGreatSetO
import Derived.Test.YtlnhecbgjjglfaaGreatBChk
set_option linter.unusedVariables false
set_option linter.unusedSimpArgs false
namespace Go.Pl
open Go Go.Sh Go.RowKit
theorem mkP0 {P : Program} {t e : TypeId} {z : Value} {size bytes : Nat} (T : ElT P t e z size bytes) {k k' : IntKind} {n : Nat} {w : World} {K : Slc → World → Prop} (hb : bytes * n ≤ 140737488355328) (hn : n ≤ 140737488355328)
    (h : ∀ s w', Own w' e size s [] → s.l = 0 → Ch [] w w' → Ge w.heap.size (blkOf s) → K s w') : mkP P t (.int k 0) (.int k' (n : Int)) w K := by
  obtain ⟨i, hi, hz, hsz, hby⟩ := info_parts T.info
  have hb' : (i.bytes : Int) * (n : Int) ≤ 281474976710656 := by
    have h : ((i.bytes * n : Nat) : Int) ≤ 281474976710656 := by rw [hby]; omega
    rwa [Int.natCast_mul] at h
  have hr := run_make (P := P) w t e i z T.und hi hz k k' 0 n (Int.le_refl _) (by omega) hb' (by omega)
  have hc : Ch [] w (w.alloc (.cells (madeCells z.cells ((n : Int).toNat * i.size)) e)) := Chg.alloc Nil w _
  refine ⟨⟨some ⟨w.heap.size, 0, none⟩, 0, n⟩, _, hr, h _ _ ⟨by simp, .inr ⟨w.heap.size, n, madeCells z.cells ((n : Int).toNat * i.size), rfl, Nat.zero_le _, ?_, Nat.zero_le _, by unfold maxLen; omega, by simp [madeCells, hsz], by simp⟩⟩ rfl hc (fun k hk => by cases hk; exact Nat.le_refl _)⟩
  show (w.heap.push _)[w.heap.size]? = _
  simp
end Go.Pl
namespace Go.Proofs.YtlnhecbgjjglfaaGreat
open Go Go.Sh Go.Pl Go.RowKit Go.Gt
def wgh (xs : List Txm) : Nat := (xs.map fun x => x.writes.length).sum
theorem wgh_take {xs : List Txm} {i : Nat} (h : i < xs.length) : wgh (xs.take (i + 1)) = wgh (xs.take i) + xs[i].writes.length := by
  unfold wgh
  rw [List.take_succ_eq_append_getElem h, List.map_append, List.sum_append]
  simp
theorem wgh_le {xs : List Txm} (h : ∀ x ∈ xs, x.writes.length ≤ 1000000) : wgh xs ≤ xs.length * 1000000 := by
  induction xs with
  | nil => simp [wgh]
  | cons x r ih =>
    have h1 := ih fun y hy => h y (by simp [hy])
    have h2 := h x (by simp)
    simp only [wgh, List.map_cons, List.sum_cons, List.length_cons] at *
    omega
theorem wgh_few {xs : List Txm} (h : Few xs) (i : Nat) : wgh (xs.take i) ≤ 1000000000000 := by
  have h1 := wgh_le (xs := xs.take i) fun x hx => (h.2 x (List.mem_of_mem_take hx)).2.2
  have h2 : (xs.take i).length ≤ 1000000 := by rw [List.length_take]; have := h.1; omega
  have := Nat.mul_le_mul_right 1000000 h2
  omega
theorem weight_ok {b : Slc} {xs : List Txm} {w : World} {K : Int → World → Prop} (hb : RdB w b xs) (few : Few xs) (hK : ∀ w', Ch [] w w' → K (wgh xs : Int) w') : c_batch_Weight b w K := by
  refine sim_batch_Weight ?_
  unfold sh_batch_Weight
  have lb := hb.len
  refine loopP_inv (fun st w1 => ∃ i : Nat, st.2.1 = (i : Int) ∧ i ≤ xs.length ∧ st.1 = (wgh (xs.take i) : Int) ∧ Ch [] w w1) (fun st _ => xs.length - st.2.1.toNat) ⟨0, rfl, Nat.zero_le _, by simp [wgh], Ch.refl _ _⟩ ?_
  rintro ⟨n0, i0, u⟩ w1 next ⟨i, rfl, hi, rfl, hc⟩ hnext
  dsimp only
  refine iteB_dec (fun h => ?_) (fun h => ?_)
  · have hlt : i < xs.length := by omega
    obtain ⟨ad, ag, rs, ws, hA, ia⟩ := (hb.ch0 hc).at' hlt
    refine ia _ _ rfl (ldTx hA ?_)
    refine newTx fun k1 w2 hc2 hb2 hk2 hs2 => ?_
    refine ldS_b (s := ws) hb2 rfl ?_
    have l3 := hA.fw.len
    have f1 := wgh_few few i
    have f2 := (few.2 xs[i] (List.getElem_mem hlt)).2.2
    have f3 := few.1
    rw [wrap_i64 (by omega), wrap_i64 (by omega)]
    exact hnext _ _ ⟨i + 1, by simp, hlt, by rw [wgh_take hlt]; dsimp only; omega, hc.tr hc2⟩ (by simp; omega)
  · have hie : i = xs.length := by omega
    subst hie
    rw [List.take_length]
    exact hK w1 hc
theorem cloneK_ok {s : Slc} {l : List (Int × Int)} {w : World} {K : Slc → World → Prop} (hs : RdC w s l) (hn : s.a = none → s.l = 0 ∧ s.c = 0) (few : l.length ≤ 1000000)
    (hK : ∀ s' w', Own w' 87 2 s' (flat l) → Ch [] w w' → Ge w.heap.size (blkOf s') → s'.l = l.length → K s' w') : c_slices_Clone_api_Key_api_Key s w K := by
  refine sim_slices_Clone_api_Key_api_Key ?_
  unfold sh_slices_Clone_api_Key_api_Key
  have ls := hs.len
  refine iteB_intro (fun h => ?_) (fun h => ?_)
  · have h0 : s.a = none := by simpa using h
    have h1 := (hn h0).1
    have : l = [] := List.eq_nil_of_length_eq_zero (by omega)
    subst this
    exact hK _ w (Own.nil _ _ _) (Ch.refl _ _) (fun k hk => by cases hk) rfl
  refine newB fun k w1 hc1 hb1 hk1 hs1 => ?_
  have hown : Own w1 87 2 ⟨some ⟨k, 0, none⟩, 0, 0⟩ [] := ⟨by simp, .inr ⟨k, 0, #[], rfl, Nat.zero_le _, hb1, Nat.le_refl _, by unfold maxLen; omega, by simp, by simp⟩⟩
  refine apP_own TKy (s := ⟨some ⟨k, 0, none⟩, 0, 0⟩) (x := s) (news := flat l) hown hn (by rw [flat_length, ls]) (fun ad ha => (hs.ch0 hc1).cells ad ha) (flat_one l) (by simp only []; omega) (by simp only []; omega) fun s' w2 ho2 hl2 hc2 hblk hsz hnil => ?_
  refine hK s' w2 (by simpa using ho2) (hc1.trN (n := k) (Ch.of1 (Chg.mono hc2 fun j _ hj => by simp [blkOf] at hj; exact hj)) (by omega)) (fun j hj => ?_) (by simp only [Nat.zero_add] at hl2; omega)
  rcases hblk with hx | hx
  · rw [hx] at hj; simp [blkOf] at hj; omega
  · rw [hx] at hj; simp at hj; omega
end Go.Proofs.YtlnhecbgjjglfaaGreat
