/- PutB: the document's Written; the law LangPuts. -/
import Derived.Test.YtgpdecfcjpblgaaDoorPut
set_option linter.unusedVariables false
set_option linter.unusedSimpArgs false
namespace Go.Proofs.YtgpdecfcjpblgaaDoor
open Go Go.Sh Go.Pl Go.RowKit Go.Lang Go.Num Go.Gt
theorem u8_op' {x : Int × Int} (h : opOk x = true) : IntKind.u8.wrap (IntKind.i64.wrap (x.1 + 64)) = ((UInt8.ofNat (x.1.toNat + 64)).toNat : Int) := by
  simp [opOk] at h
  rw [wrap_i64 (by omega), wrap_u8 (by omega), UInt8.toNat_ofNat']
  omega
set_option maxRecDepth 20000 in
theorem written_ok {a b c d : Int} {s : Slc} {is : List (Int × Int)} {w : World} {K : Slc → Int → World → Prop} (hs : RdC w s is) (h64 : I64 is)
    (hK : ∀ s' w', Own w' 5 1 s' (U8 (putT a b c d is).1) → Ch [] w w' → Ge w.heap.size (blkOf s') → K s' (putT a b c d is).2 w') : c_preluderef03_Written a b c d s w K := by
  refine sim_preluderef03_Written ?_
  unfold sh_preluderef03_Written
  have ls := hs.len
  refine newB fun k1 w1 hc1 hb1 hk1 hs1 => ?_
  refine ldPr (s := s) hb1 ?_
  refine limits_ok fun w2 (hc2 : Ch [] w1 w2) => ?_
  unfold putT at hK
  rw [← ls] at hK
  by_cases hok : okP a b c d s.l = false
  · rw [if_pos hok] at hK
    rw [hok]
    exact iteB_pos (by simp) (hK _ w2 (Own.nil _ _ _) (by grind) (fun k h => by cases h))
  rw [if_neg hok] at hK
  have hok : okP a b c d s.l = true := by simpa using hok
  have h256 := okP_le hok
  rw [hok]
  refine iteB_neg (by simp) ?_
  refine ldPr (s := s) (Blk.to hb1 (by grind)) ?_
  refine newPr fun k5 w5 hc5 hb5 hk5 hs5 => ?_
  rw [hdI_arr, ls] at hb5
  rw [ls] at hK hok
  have hhd := hdI_ok hok
  generalize hg : hdI a b c d is.length = hd5 at hb5 hhd hK
  have hl5 : hd5.length = 5 := by rw [← hg]; rfl
  have hc05 : Ch [] w w5 := by grind
  have hs5' : RdC w5 s is := by grind
  have hb15 := Blk.to hb1 (by grind : Blk w5 k1 _ _)
  have hdl : ∀ i, (hdB (hd5.take i)).length ≤ 50 := fun i => by
    have := hdB_len (l := hd5.take i) fun x hx => hhd x (List.mem_of_mem_take hx)
    simp at this
    omega
  refine loopP_inv (fun st w6 => ∃ (i : Nat), st.2.1 = (i : Int) ∧ i ≤ 5 ∧ Own w6 5 1 st.1 (U8 (hdB (hd5.take i))) ∧ Ch [] w5 w6 ∧ Ge w5.heap.size (blkOf st.1)) (fun st _ => 5 - st.2.1.toNat) ⟨0, rfl, Nat.zero_le _, by simpa [hdB] using Own.nil _ _ _, Ch.refl _ _, fun k h => by cases h⟩ ?_
  rintro ⟨s6, i0, u⟩ w6 next ⟨i, rfl, hi, ho6, hc6, hg6⟩ hnext
  dsimp only at ho6 hg6 ⊢
  refine iteB_intro (fun h => ?_) (fun h => ?_)
  · have hlt : i < 5 := by simp at h; omega
    have hv : (hd5.map (Value.int .i64)).toArray[(Int.toNat (i : Int)) * 1]? = some (.int .i64 hd5[i]) := by simp [hl5, hlt]
    have hx := hhd hd5[i] (List.getElem_mem _)
    refine ⟨by omega, by omega, ldI_b (Blk.to hb5 (by grind)) hv ?_⟩
    rw [wrap_u64 (by omega), show hd5[i] = ((hd5[i].toNat : Nat) : Int) by omega]
    have := hdl i
    have h10 := encU_ten hd5[i].toNat (by omega)
    refine refUint_ok (by omega) fun s7 w7 ho7 (hc7 : Ch [] w6 w7) (hn7 : Ge w6.heap.size (blkOf s7)) => ?_
    refine apO TU8 (ho6.to (by grind)) ho7.rd ho7.none0 (U8_one _) (by rw [U8_own ho6, U8_own ho7]; omega) (by rw [U8_own ho6, U8_own ho7]; omega) fun s8 w8 ho8 hl8 hg8 => ?_
    rw [wrap_i64 (by omega)]
    refine hnext _ _ ⟨i + 1, by simp, hlt, ?_, by grind, by grind⟩ (by simp; omega)
    rw [← U8_append] at ho8
    rw [List.take_succ_eq_append_getElem (by omega)]
    unfold hdB at ho8 ⊢
    rw [List.flatMap_append]
    simpa only [List.flatMap_cons, List.flatMap_nil, List.append_nil] using ho8
  have hie : i = 5 := by simp at h; omega
  subst hie
  rw [List.take_of_length_le (by omega)] at ho6
  have hd0 : (hdB hd5).length ≤ 50 := by have := hdl 5; rwa [List.take_of_length_le (by omega)] at this
  clear hnext
  have hb16 := Blk.to hb15 (by grind : Blk w6 k1 _ _)
  have hs6 : RdC w6 s is := by grind
  have hc06 : Ch [] w w6 := by grind
  refine loopP_inv (fun st w8 => ∃ (i : Nat), st.2.1 = (i : Int) ∧ i ≤ is.length ∧ (is.take i).all opOk = true ∧ Own w8 5 1 st.1 (U8 (hdB hd5 ++ (is.take i).flatMap insB)) ∧ Gr s6 w6 st.1 w8) (fun st _ => is.length - st.2.1.toNat) ⟨0, rfl, Nat.zero_le _, by simp, by simpa using ho6, Gr.refl _ _⟩ ?_
  rintro ⟨s8, i0, u⟩ w8 next ⟨i, rfl, hi, hall, ho8, hgr8⟩ hnext
  dsimp only at ho8 hgr8 ⊢
  have hc08 : Ch [] w w8 := by grind
  have hg8 : Ge w.heap.size (blkOf s8) := by grind
  refine ldS_b (s := s) (Blk.to hb16 (by grind)) rfl ?_
  refine iteB_intro (fun h => ?_) (fun h => ?_)
  · have hlt : i < is.length := by simp [ls] at h; omega
    have hbl := body_len (h64.take i)
    rw [List.length_take] at hbl
    have hx64 := h64 is[i] (List.getElem_mem _)
    refine ldS_b (s := s) (Blk.to hb16 (by grind)) rfl ?_
    refine (hs6.to (by grind) : RdC w8 s is).idx rfl hlt fun ad h1 h2 => ldI_of h1 (ldI_of h2 ?_)
    refine newIn fun k9 w9 hc9 hb9 hk9 hs9 => ?_
    have bad : opOk is[i] = false → K ⟨none, 0, 0⟩ 31 w9 := fun hb => by
      have hnot : is.all opOk = false := by
        rw [List.all_eq_false]
        exact ⟨is[i], List.getElem_mem _, by simpa using hb⟩
      rw [if_pos hnot] at hK
      exact hK _ w9 (Own.nil _ _ _) (by grind) (fun k h => by cases h)
    refine ldI_b (o := 0) hb9 rfl (iteB_intro (fun hb => bad (by simp [opOk] at hb ⊢; omega)) (fun hlo => ?_))
    refine ldI_b (o := 0) hb9 rfl (iteB_intro (fun hb => bad (by simp [opOk] at hb ⊢; omega)) (fun hhi => ?_))
    have hxo : opOk is[i] = true := by simp [opOk] at hlo hhi ⊢; omega
    have hu := u8_op hxo
    have hu2 := u8_op' hxo
    have ho9 : Own w9 5 1 s8 _ := ho8.to (by grind)
    have l8 : s8.l = (hdB hd5).length + ((is.take i).flatMap insB).length := by have := ho8.rd.len; simpa using this
    have fin : ∀ s10 w10, Own w10 5 1 s10 (U8 ((hdB hd5 ++ (is.take i).flatMap insB) ++ insB is[i])) → Gr s6 w6 s10 w10 → next (s10, (IntKind.i64.wrap ((i : Int) + 1)), ()) w10 := fun s10 w10 ho10 hg10 => by
      rw [wrap_i64 (by omega)]
      refine hnext _ _ ⟨i + 1, by simp, hlt, ?_, ?_, hg10⟩ (by simp; omega)
      · rw [List.take_succ_eq_append_getElem hlt, List.all_append, hall]
        simpa using hxo
      · rw [List.take_succ_eq_append_getElem hlt, List.flatMap_append]
        simp only [List.flatMap_cons, List.flatMap_nil, List.append_nil, List.append_assoc] at ho10 ⊢
        exact ho10
    have i0 : is[i].2 = 0 → insB is[i] = [UInt8.ofNat is[i].1.toNat] := fun h => by unfold insB; rw [if_pos h]
    have i1 : ¬ is[i].2 = 0 → insB is[i] = UInt8.ofNat (is[i].1.toNat + 64) :: encU (zig is[i].2) := fun h => by unfold insB; rw [if_neg h]
    refine ldI_b hb9 rfl (iteB_intro (fun h0 => ?_) (fun h0 => ?_))
    · have h0 : is[i].2 = 0 := by simpa using h0
      rw [i0 h0] at fin
      refine ldI_b (o := 0) hb9 rfl ?_
      rw [hu.1]
      refine apB TU8 rfl (by simp [Value.oneCell']) ho9 (by omega) (by omega) fun s10 w10 ho10 hl10 hg10 => ?_
      exact fin s10 w10 (by rw [U8_append]; exact ho10) (by grind)
    · have h0 : ¬ is[i].2 = 0 := by simpa using h0
      rw [i1 h0] at fin
      refine ldI_b (o := 0) hb9 rfl ?_
      rw [hu2]
      refine apB TU8 rfl (by simp [Value.oneCell']) ho9 (by omega) (by omega) fun s10 w10 ho10 hl10 hg10 => ?_
      refine ldI_b (Blk.to hb9 (by grind)) rfl ?_
      refine refInt_ok hx64.2 fun s11 w11 ho11 (hc11 : Ch [] w10 w11) (hn11 : Ge w10.heap.size (blkOf s11)) => ?_
      have h10 := encU_ten _ (zig_lt hx64.2)
      refine apO TU8 (ho10.to (by grind)) ho11.rd ho11.none0 (U8_one _) (by rw [U8_own ho11]; omega) (by rw [U8_own ho11]; omega) fun s12 w12 ho12 hl12 hg12 => ?_
      refine fin s12 w12 ?_ (by grind)
      rw [List.append_cons, U8_append, U8_append]
      exact ho12
  have hie : i = is.length := by simp [ls] at h; omega
  subst hie
  rw [List.take_length] at hall ho8
  rw [if_neg (by simp [hall])] at hK
  exact hK s8 w8 ho8 hc08 hg8
end Go.Proofs.YtgpdecfcjpblgaaDoor
namespace Go.Proofs.YtgpdecfcjpblgaaDoor
open Go Go.Sh Go.Pl Go.RowKit Go.Lang Go.Num Go.Gt
abbrev insG : G := .sl 16 (.st (.pair (.int .i64) (.pair (.int .i64) .unit)))
/-- A list of instructions that came in. -/
def codeL (l : List (Int × Int × Unit)) : List (Int × Int) := l.map fun x => (x.1, x.2.1)
def code (ms : Mo insG) : List (Int × Int) := codeL ms
theorem codeL_at {l : List (Int × Int × Unit)} {i : Nat} {x : Int × Int} (h : (codeL l)[i]? = some x) : ∃ u, l[i]? = some (x.1, x.2, u) := by
  unfold codeL at h
  rw [List.getElem?_map] at h
  cases hm : l[i]? with
  | none => rw [hm] at h; cases h
  | some m => rw [hm] at h; cases h; exact ⟨m.2.2, rfl⟩
theorem codeL_len (l : List (Int × Int × Unit)) : (codeL l).length = l.length := by simp [codeL]
theorem rep_code {R : Nat} {w : World} {s : Slc} {ms : Mo insG} (h : Gt.Rep R w insG [.slice s.a s.l s.c] ms) : RdC w s (code ms) ∧ I64 (code ms) ∧ (s.a = none → s.l = 0 ∧ s.c = 0) ∧ s.c * 16 ≤ R := by
  obtain ⟨s', he, h1, h2, h3, h4, h5⟩ := h
  have he' : s = s' := by
    cases s; cases s'; simpa using he
  subst he'
  have key : ∀ (i : Nat) (x : Int × Int), (code ms)[i]? = some x → ∃ ad, s.a = some ad ∧ w.cell? (ad.add (i * 2)) = some (.int .i64 x.1) ∧ w.cell? ((ad.add (i * 2)).add 1) = some (.int .i64 x.2) ∧ (Lit.int .i64 x.1).wf = true ∧ (Lit.int .i64 x.2).wf = true := fun i x hx => by
    obtain ⟨u, hm⟩ := codeL_at hx
    obtain ⟨ad, es, g1, g2, g3, g4⟩ := h5 i (x.1, x.2, u) hm
    obtain ⟨c1, c2, rfl, ⟨rfl, q1⟩, c3, c4, rfl, ⟨rfl, q2⟩, rfl⟩ := g4
    have e0 := g3 0 (by decide)
    have e1 := g3 1 (by decide)
    exact ⟨ad, g1, (by simpa using e0 : w.cell? (ad.add (i * (G.sz (.st (.pair (.int .i64) (.pair (.int .i64) .unit)))))) = _), (by simpa using e1 : w.cell? ((ad.add (i * (G.sz (.st (.pair (.int .i64) (.pair (.int .i64) .unit)))))).add 1) = _), q1, q2⟩
  refine ⟨⟨by rw [h1]; exact (codeL_len ms).symm, h2, fun i x hx => ?_⟩, fun x hx => ?_, h3, h4⟩
  · obtain ⟨ad, g1, g2, g3, _⟩ := key i x hx
    exact ⟨ad, g1, g2, g3⟩
  · obtain ⟨i, hi⟩ := List.getElem?_of_mem hx
    obtain ⟨ad, _, _, _, g4, g5⟩ := key i x hi
    simp [Lit.wf, IntKind.min, IntKind.max, IntKind.signed, IntKind.bits] at g4 g5
    omega
end Go.Proofs.YtgpdecfcjpblgaaDoor
