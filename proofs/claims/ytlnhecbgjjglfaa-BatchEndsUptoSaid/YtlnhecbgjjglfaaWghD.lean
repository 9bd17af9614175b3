/- WghD: the law BatchWeighs. -/
import Derived.Test.YtlnhecbgjjglfaaWghC
set_option linter.unusedVariables false
set_option linter.unusedSimpArgs false
namespace Go.Proofs.Ytlnhecbgjjglfaa
open Go Go.Sh Go.Pl Go.RowKit Go.Gt
def emptyG : Nat → GS := fun _ => ⟨⟨none, 0, 0⟩, [], []⟩
theorem shf0 {w : World} {k0 : Nat} (hb : Blk w k0 #[.slice none 0 0, .slice none 0 0, .slice none 0 0, .slice none 0 0, .slice none 0 0] 37) : Shf T6 (fun k => k = k0) w k0 (fun _ => 0) emptyG :=
  ⟨hb, rfl, rfl, (fun o ho => Own.nil _ _ _), (fun o ho k hk => by cases hk), (fun o ho => rfl), (fun o ho i r vs h => by simp [emptyG] at h), (fun o ho i r k h => by simp [emptyG] at h)⟩
theorem set_row {lo hi : Nat} {w : World} {l : Slc} {rows : List Slc} {vss : List (List Value)} (h : SetsO lo hi w l rows vss) {i : Nat} {i' : Int} (hi' : i' = (i : Int)) (hlt : i < rows.length) {K : Slc → Prop} (hK : K rows[i]) : idxP l.a l.l i' 1 fun a => ldS a w K := by
  subst hi'
  refine h.own.rd.idx (by omega) (by simp; omega) fun ad had => ldS_of (s := rows[i]) ?_ hK
  rw [had, Int.toNat_natCast, List.getElem?_map, List.getElem?_eq_getElem hlt]
  rfl
theorem own_row {w : World} {l : Slc} {rows : List Slc} (h : Own w 30 1 l (rows.map slV)) {i : Nat} {i' : Int} (hi' : i' = (i : Int)) (hlt : i < rows.length) {K : Slc → Prop} (hK : K rows[i]) : idxP l.a l.l i' 1 fun a => ldS a w K := by
  subst hi'
  refine h.rd.idx (by omega) (by simp; omega) fun ad had => ldS_of (s := rows[i]) ?_ hK
  rw [had, Int.toNat_natCast, List.getElem?_map, List.getElem?_eq_getElem hlt]
  rfl
theorem sets_rdC {lo hi : Nat} {w : World} {l : Slc} {rows : List Slc} {xs : List Txm} (h : SetsO lo hi w l rows (setsV xs)) {i : Nat} (hlt : i < rows.length) (hx : i < xs.length) : RdC w rows[i] xs[i].writes :=
  (h.row i _ _ (List.getElem?_eq_getElem hlt) (by unfold setsV; rw [List.getElem?_map, List.getElem?_eq_getElem hx]; rfl)).rdC'
set_option maxRecDepth 20000 in
set_option maxHeartbeats 2000000 in
theorem law_BatchWeighs {b : Slc} {mb : Mo batG} {w : World} (k0 : Gt.Rep reachBytes w batG [.slice b.a b.l b.c] mb) : c_preludelaw06_BatchWeighs b w fun r w' => r = true ∧ Chg Nil w w' := by
  refine sim_preludelaw06_BatchWeighs ?_
  unfold sh_preludelaw06_BatchWeighs
  obtain ⟨hb, big, hbn, hbc⟩ := rep_bat (Nat.le_refl _) k0
  have hre : reachBytes = 140737488351232 := rfl
  have lb := hb.len
  have cb := hb.cap
  generalize batOf mb = xs at *
  refine parts_ok hb big (by omega) (by omega) fun n w1 hc1 hfew hn => ?_
  refine iteB_dec (fun h => ⟨rfl, hc1⟩) (fun h => ?_)
  have few := hfew (by omega)
  refine lent_ok (hb.ch0 hc1) (fun h => (hbn h).1) few fun s2 w2 hl2 hnil hc2 => ?_
  have z1 := hc1.size
  have z2 := hc2.size
  replace hc2 := hc1.tr hc2
  refine weight_ok hl2.rdB few fun w3 hc3 => ?_
  have hl3 := hl2.ch0 hc3
  have z3 := hc3.size
  replace hc3 := hc2.tr hc3
  refine writes_ok hl3.rdB few fun l rl w4 hL hlenL hc4 => ?_
  have hl4 := hl3.ch0 hc4
  have z4 := hc4.size
  replace hc4 := hc3.tr hc4
  refine writes_ok hl4.rdB few fun m rm w5 hM hlenM hc5 => ?_
  have hl5 := hl4.ch0 hc5
  have z5 := hc5.size
  have hL5 := hL.chg (S := fun _ => False) (Chg.mono (show Chg Nil w4 w5 from hc5) fun _ _ h => h.elim) fun _ _ _ h => h
  replace hc5 := hc4.tr hc5
  refine back_ok hl5 (hb.ch0 hc5) hnil few (by omega) fun w6 hc6 => ?_
  have z6 := hc6.size
  have hL6 := hL5.chg hc6 fun k h1 h2 h3 => by omega
  have hM6 := hM.chg hc6 fun k h1 h2 h3 => by omega
  have hcw6 : Ch [] w w6 := (show Chg Nil w w5 from hc5).step hc6 fun k hk hkk => by omega
  refine rwrites_ok (hb.ch0 hcw6) few fun t rt w7 hT hTl hTr hc7 => ?_
  have z7 := hc7.size
  refine iteB_neg rfl ?_
  refine rweight_ok ((hb.ch0 hcw6).ch0 hc7) few fun w8 hc8 => ?_
  have z8 := hc8.size
  have hc68 := hc7.tr hc8
  have hcw8 := hcw6.tr hc68
  have hL8 := hL6.chg (S := fun _ => False) (Chg.mono (show Chg Nil w6 w8 from hc68) fun _ _ h => h.elim) fun _ _ _ h => h
  have hM8 := hM6.chg (S := fun _ => False) (Chg.mono (show Chg Nil w6 w8 from hc68) fun _ _ h => h.elim) fun _ _ _ h => h
  have hT8 : Own w8 30 1 t (rt.map slV) := hT.ch hc8 fun _ _ h => h
  have ll := hL8.own.len
  have lm := hM8.own.len
  have ltt := hT8.len
  have lrl := hL8.len
  have lrm := hM8.len
  simp only [List.length_map, Nat.mul_one, setsV] at ll lm ltt lrl lrm
  refine iteB_ne (fun h => absurd rfl h) (fun _ => ?_)
  refine iteB_ne (fun h => absurd (by omega) h) (fun _ => ?_)
  refine iteB_ne (fun h => absurd (by omega) h) (fun _ => ?_)
  have f1 := few.1
  refine loopP_inv (fun st w9 => ∃ i : Nat, st.1 = (i : Int) ∧ i ≤ xs.length ∧ Ch [] w8 w9) (fun st _ => xs.length - st.1.toNat) ⟨0, rfl, Nat.zero_le _, Ch.refl _ _⟩ ?_
  rintro ⟨i0, u⟩ w9 next ⟨i, rfl, hi, hc9⟩ hnext
  dsimp only
  have fr0 : ∀ {a b : World}, Ch [] a b → Chg (fun _ => False) a b := fun h => Chg.mono (show Chg Nil _ _ from h) fun _ _ h => h.elim
  refine iteB_dec (fun h => ?_) (fun h => ?_)
  · have hlt : i < xs.length := by omega
    have dn := hc9.tr (Ch.drew w9)
    have hx : xs[i]? = some xs[i] := by simp
    have fx := (few.2 xs[i] (List.getElem_mem hlt)).2.2
    have hLd := hL8.chg (fr0 dn) fun _ _ _ h => h
    have hMd := hM8.chg (fr0 dn) fun _ _ _ h => h
    have hTd : Own w9.drew 30 1 t (rt.map slV) := hT8.ch dn fun _ _ h => h
    have hrt : RdC w9.drew (rt[i]'(by omega)) xs[i].writes := (hTr i _ _ (List.getElem?_eq_getElem (by omega)) hx).ch0 ((hc7.tr hc8).tr dn)
    refine set_row hLd rfl (by omega) ?_
    refine own_row hTd rfl (by omega) ?_
    refine sameKeys_ok (sets_rdC hLd (by omega) hlt) hrt (by omega) fun w10 hc10 => iteB_neg rfl ?_
    have hTe : Own w10 30 1 t (rt.map slV) := hTd.ch hc10 fun _ _ h => h
    have hMe := hMd.chg (fr0 hc10) fun _ _ _ h => h
    refine set_row hMe rfl (by omega) ?_
    refine own_row hTe rfl (by omega) ?_
    refine sameKeys_ok (sets_rdC hMe (by omega) hlt) (hrt.ch0 hc10) (by omega) fun w11 hc11 => iteB_neg rfl ?_
    rw [wrap_i64 (by omega)]
    exact hnext _ _ ⟨i + 1, by simp, hlt, (dn.tr hc10).tr hc11⟩ (by simp; omega)
  · refine newB fun ks w10 hc10 hb10 hk10 hs10 => ?_
    have z9 := hc9.size
    have hLe := (hL8.chg (fr0 hc9) fun _ _ _ h => h).chg (fr0 hc10) fun _ _ _ h => h
    have hMe := (hM8.chg (fr0 hc9) fun _ _ _ h => h).chg (fr0 hc10) fun _ _ _ h => h
    have hcw10 := (hcw8.tr hc9).tr hc10
    refine sets_ok (shf0 hb10) (fun k hk => by omega) hLe (fun k h1 h2 h3 => by omega) (by omega) ⟨by simp [emptyG], by simp [emptyG]; omega⟩ fun D1 f1' G1 w11 h11 b11 d11 q11 e3 e1 hc11 hz11 => ?_
    have hMf := hMe.chg hc11 fun k h1 h2 h3 => by omega
    refine sets_ok h11 b11 hMf (fun k h1 h2 h3 => by have := d11 k h3; omega) (by omega) ⟨by rw [e3]; simp [emptyG], by rw [e1]; simp [emptyG]; omega⟩ fun D2 f2' G2 w12 h12 b12 d12 q12 e3' e1' hc12 hz12 => ?_
    have hcw12 : Chg Nil w w12 := ((show Chg Nil w w10 from hcw10).step hc11 fun k hk hkk => by omega).step hc12 fun k hk hkk => by
      rcases hkk with hh | hh | hh
      · have := d11 k hh; omega
      · omega
      · omega
    refine apart_ok h12 b12 ?_ fun w13 hc13 => ⟨rfl, hcw12.step hc13 fun k hk hkk => ?_⟩
    · have small : ∀ {rows : List Slc}, rows.length = xs.length → (∀ (i : Nat) (r : Slc) (x : Txm), rows[i]? = some r → xs[i]? = some x → r.l = x.writes.length) → ∀ r ∈ rows, r.l ≤ 1000000000 := fun hl hh r hr => by
        obtain ⟨j, hj⟩ := List.getElem?_of_mem hr
        have hjl := (List.getElem?_eq_some_iff.1 hj).1
        have h2 := hh j r xs[j] hj (by simp)
        have h3 := (few.2 xs[j] (List.getElem_mem (by omega))).2.2
        omega
      intro o ho
      by_cases o1 : o = 1
      · subst o1
        rw [e1', e1]
        refine ⟨by simp [emptyG]; omega, fun r hr => ?_⟩
        simp only [emptyG, List.nil_append] at hr
        rcases List.mem_append.1 hr with hr | hr
        · exact small (by omega) hlenL r hr
        · exact small (by omega) hlenM r hr
      · by_cases o3 : o = 3
        · subst o3
          rw [e3', e3]
          refine ⟨by simp [emptyG], fun r hr => ?_⟩
          simp [emptyG] at hr
          rcases hr with rfl | rfl <;> omega
        · rw [q12 o o1 o3, q11 o o1 o3]
          exact ⟨by simp [emptyG], fun r hr => by simp [emptyG] at hr⟩
    · rcases hkk with hh | hh
      · rcases d12 k hh with g | g | g
        · have := d11 k g; omega
        · omega
        · omega
      · omega
end Go.Proofs.Ytlnhecbgjjglfaa
