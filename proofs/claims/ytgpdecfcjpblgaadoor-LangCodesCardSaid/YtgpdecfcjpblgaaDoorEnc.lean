/- Enc: lang.Encode: a library as bytes. -/
import Derived.Test.YtgpdecfcjpblgaaDoorLibC
import Derived.Laws.IdiomStrings
import Derived.Lib.BufferRead
set_option linter.unusedVariables false
set_option linter.unusedSimpArgs false
namespace Go.Pl
open Go Go.Sh Go.RowKit
theorem to_str {P : Program} {src dst e : TypeId} {w : World} {s : Slc} {bs : List UInt8} (hs : P.underlying src = some (.slice e)) (he : P.underlying e = some (.int .u8)) (hd : P.underlying dst = some .string) (h : Rd w s (U8 bs)) : (convert src dst (.slice s.a s.l s.c)).run P w = .ok (.string ⟨bs.toArray⟩) w := by
  have hl := h.len
  simp only [U8_length] at hl
  cases hsa : s.a with
  | some a =>
    rw [hl]
    refine run_convert_bytes_back w src dst e a s.c bs hs he hd fun j hj => ?_
    rw [cells_of_rd h hsa j _ (U8_at bs hj)]
  | none =>
    have h0 : bs = [] := by
      cases bs with
      | nil => rfl
      | cons x bs => obtain ⟨ad, had, _⟩ := h.at_ 0 (by simp); rw [hsa] at had; cases had
    subst h0
    simp at hl
    rw [hl]
    exact Lib.run_convert_nil_bytes w src dst e s.c hs he hd
theorem fm_bytes {P : Program} {src dst e : TypeId} {s : ByteArray} {w : World} {K : Slc → World → Prop} (hs : P.underlying src = some .string) (hd : P.underlying dst = some (.slice e)) (he : P.underlying e = some (.int .u8))
    (hK : ∀ s' w', Rd w' s' (U8 s.data.toList) → Ch [] w w' → blkOf s' = some w.heap.size → s'.l = s.size → K s' w') :
    ∃ (r : Slc), ∃ w1, (convert src dst (.string s)).run P w = .ok (.slice r.a r.l r.c) w1 ∧ K r w1 := by
  refine ⟨⟨some ⟨w.heap.size, 0, none⟩, s.size, grownCap w s.size 0 e⟩, _, run_bytes_of_string w src dst e s hs hd he, hK _ _ ?_ ?_ rfl rfl⟩
  · have hcap : s.size ≤ grownCap w s.size 0 e := grownCap_ge w s.size 0 e
    have hsz : s.data.toList.length = s.size := Array.length_toList
    refine ⟨by simp [hsz], hcap, fun i hi => ⟨_, rfl, ?_⟩⟩
    simp only [U8_length] at hi
    rw [add_mk, Nat.zero_add]
    have hb : (w.drew.alloc (.cells (bytesRow s (grownCap w s.size 0 e)) e ((bytesRow s (grownCap w s.size 0 e)).size, (bytesRow s (grownCap w s.size 0 e)).size + 1))).heap[w.heap.size]? = some (.cells (bytesRow s (grownCap w s.size 0 e)) e ((bytesRow s (grownCap w s.size 0 e)).size, (bytesRow s (grownCap w s.size 0 e)).size + 1)) := by
      show (w.heap.push _)[w.heap.size]? = _
      simp
    simp only [World.cell?, hb]
    unfold bytesRow
    rw [Array.getElem?_append_left (by rw [Array.size_map]; rw [hsz] at hi; exact hi)]
    simp [U8]
  · exact (Chg.drew Nil w).step (Chg.alloc Nil w.drew _) fun _ _ h => h
/-- '[]byte("..")' of a constant. -/
theorem fm_const {P : Program} {t e : TypeId} {w : World} {cells : Array Value} {l : Nat} {K : Slc → World → Prop} (hu : P.underlying t = some (.slice e)) (he : P.underlying e = some (.int .u8)) (bs : List UInt8) (hc : cells = (U8 bs).toArray) (hl : l = bs.length)
    (hK : ∀ s' w', Rd w' s' (U8 bs) → Ch [] w w' → blkOf s' = some w.heap.size → K s' w') :
    newP cells e w fun a w7 => ∃ (r8 : Slc), ∃ w9, (convert t t (.slice (some a) l l)).run P w7 = .ok (.slice r8.a r8.l r8.c) w9 ∧ K r8 w9 := by
  subst hc hl
  refine newB fun k w1 hc1 hb1 hk1 hs1 => ?_
  refine ⟨⟨some ⟨k, 0, none⟩, bs.length, bs.length⟩, _, convert_const hu he hb1 _ _, hK _ _ ?_ (hc1.trN (Ch.of1 (b := k) (Chg.freeze w1 ⟨k, _, none⟩ 1)) (by omega)) (by simp [blkOf, hk1])⟩
  refine ⟨by simp, Nat.le_refl _, fun i hi => ⟨_, rfl, ?_⟩⟩
  rw [freeze_cell, add_mk, Nat.zero_add, hb1.cell]
  simp
end Go.Pl
namespace Go.Lang
open Go.Num
def pcB (x : Pc) : List UInt8 := encU x.name.size ++ x.name.data.toList ++ (putT x.p.a x.p.b x.p.c x.p.d x.p.l).1
def headB : List UInt8 := [80, 82, 76, 49]
def encT (ps : List Pc) : List UInt8 × Int := if (checkT ps).2 ≠ 0 then ([], (checkT ps).2) else (headB ++ encU ps.length ++ ps.flatMap pcB, 0)
theorem ckL_ok : ∀ {l : List Pc} {pre : List ByteArray} {i : Nat}, (ckL pre i l).2 = 0 → ∀ x ∈ l, nameOk x.name = true ∧ (pgD x.p).2 = 0
  | [], pre, i, h, x, hx => by cases hx
  | y :: r, pre, i, h, x, hx => by
    simp only [ckL] at h
    split at h
    · simp at h
    · rename_i h1
      split at h
      · rename_i h2; exact absurd h h2
      · rename_i h2
        rcases List.mem_cons.1 hx with rfl | hx
        · refine ⟨?_, by omega⟩
          cases hn : nameOk x.name with
          | true => rfl
          | false => rw [hn] at h1; simp at h1
        · exact ckL_ok h x hx
theorem checkT_ok {ps : List Pc} (h : (checkT ps).2 = 0) : ps.length ≤ 64 ∧ ∀ x ∈ ps, nameOk x.name = true ∧ (pgD x.p).2 = 0 := by
  unfold checkT at h
  split at h
  · simp at h
  · exact ⟨by omega, ckL_ok h⟩
theorem nameOk_size {s : ByteArray} (h : nameOk s = true) : 1 ≤ s.size ∧ s.size ≤ 31 := by
  unfold nameOk at h
  simp only [Bool.and_eq_true, decide_eq_true_eq] at h
  exact h.1
theorem chk_ops {a b c d : Int} {l : List Ins} (h : (depths a b c d l).2 = 0) : okP a b c d l.length = true ∧ l.all opOk = true := by
  obtain ⟨h1, h2⟩ := depths_ok0 h
  refine ⟨h1, List.all_eq_true.2 fun x hx => ?_⟩
  obtain ⟨k, hk⟩ := List.getElem?_of_mem hx
  have := (chk_ways h2 (by omega) k x hk).1
  simp [opOk]; omega
theorem putT_sound {a b c d : Int} {l : List Ins} (h : (depths a b c d l).2 = 0) : putT a b c d l = (hdB (hdI a b c d l.length) ++ l.flatMap insB, 0) := by
  obtain ⟨h1, h2⟩ := chk_ops h
  unfold putT
  rw [if_neg (by simp [h1]), if_neg (by simp [h2])]
theorem putT_len {a b c d : Int} {l : List Ins} (h : I64 l) : (putT a b c d l).1.length ≤ 3000 := by
  unfold putT
  split
  · simp
  · rename_i hok
    split
    · simp
    · have h1 := hdB_len (hdI_ok (show okP a b c d l.length = true by simpa using hok))
      have h2 := body_len h
      have h3 := okP_le (show okP a b c d l.length = true by simpa using hok)
      simp only [hdI, List.length_cons, List.length_nil] at h1
      rw [List.length_append]
      simp only [hdI]
      omega
theorem pcB_len {x : Pc} (h : I64 x.p.l) (hn : x.name.size ≤ 31) : (pcB x).length ≤ 3100 := by
  have h1 := putT_len (a := x.p.a) (b := x.p.b) (c := x.p.c) (d := x.p.d) h
  have h2 := encU_ten x.name.size (by omega)
  have h3 : x.name.data.toList.length = x.name.size := Array.length_toList
  unfold pcB
  rw [List.length_append, List.length_append]
  omega
theorem pcs_len {ps : List Pc} (h : ∀ x ∈ ps, I64 x.p.l ∧ x.name.size ≤ 31) : (ps.flatMap pcB).length ≤ 3100 * ps.length := by
  induction ps with
  | nil => simp
  | cons x r ih =>
    have := ih fun y hy => h y (by simp [hy])
    have := pcB_len (h x (by simp)).1 (h x (by simp)).2
    simp only [List.flatMap_cons, List.length_append, List.length_cons]; omega
end Go.Lang
namespace Go.Proofs.YtgpdecfcjpblgaaDoor
open Go Go.Sh Go.Pl Go.RowKit Go.Lang Go.Names Go.Num Go.Gt
theorem u8T : Tryd.prog.underlying 5 = some (.int .u8) := by kernel_rfl
set_option maxRecDepth 20000 in
set_option maxHeartbeats 1000000 in
theorem encode_ok {s : Slc} {ps : List Pc} {w : World} {K : Slc → Int → World → Prop} (hs : RdL w s ps) (h64 : ∀ x ∈ ps, I64 x.p.l)
    (hK : ∀ s' w', Own w' 5 1 s' (U8 (encT ps).1) → Ch [] w w' → Ge w.heap.size (blkOf s') → K s' (encT ps).2 w') : c_lang_Encode s w K := by
  refine sim_lang_Encode ?_
  unfold sh_lang_Encode
  have ls := hs.len
  refine check_ok hs fun w1 hc1 => ?_
  unfold encT at hK
  refine iteB_ne (fun hne => ?_) (fun h0 => ?_)
  · rw [if_pos hne] at hK
    exact hK _ w1 (Own.nil _ _ _) hc1 (fun k h => by cases h)
  rw [if_neg (by simp [h0])] at hK
  obtain ⟨hn64, hall⟩ := checkT_ok h0
  have hsz : ∀ x ∈ ps, I64 x.p.l ∧ x.name.size ≤ 31 := fun x hx => ⟨h64 x hx, (nameOk_size (hall x hx).1).2⟩
  refine new_ok fun w2 hw2 (hc2 : Ch [] w1 w2) hs2 => ?_
  have hbw := hw2.blk.lt
  replace hc2 := hc1.tr hc2
  have hk0 := hc1.size
  generalize w1.heap.size = bw at *
  clear hc1
  refine fm_const TU8.und u8T headB rfl rfl fun sh w3 hr3 hc3 hb3 => ?_
  refine wraw_ok (hw2.ch0 hc3) hr3 (fun h => by simp [blkOf, h] at hb3) (by simp [headB]) fun s4 w4 hw4 hst4 => ?_
  have ewl : IntKind.u64.wrap (s.l : Int) = ((ps.length : Nat) : Int) := by rw [ls, wrap_u64 (by omega)]
  rw [ewl]
  have e10 := encU_ten ps.length (by omega)
  refine wuint_ok hw4 (by omega) (by simp [headB]) fun s5 w5 hw5 hst5 => ?_
  have hst : WSt bw ⟨none, 0, 0⟩ s5 w2 w5 := (WSt.afterC hc3 hst4).tr hst5
  rw [List.nil_append] at hw5
  clear hw4 hst4 hst5 hr3 hc3 hb3
  have toC : ∀ {s' : Slc} {w' : World}, WSt bw ⟨none, 0, 0⟩ s' w2 w' → Ch [] w w' := fun h => Ch.trans hc2 h.ch.1 fun i hi hin => by
    rcases (show some i = some bw ∨ some i = none from hin) with h | h
    · cases h; omega
    · cases h
  refine loopP_inv (fun st w6 => ∃ (i : Nat) (s6 : Slc), st.1 = (i : Int) ∧ i ≤ ps.length ∧ Wr w6 bw s6 (headB ++ encU ps.length ++ (ps.take i).flatMap pcB) ∧ WSt bw ⟨none, 0, 0⟩ s6 w2 w6) (fun st _ => ps.length - st.1.toNat)
    ⟨0, s5, rfl, Nat.zero_le _, by simpa using hw5, hst⟩ ?_
  clear hw5 hst
  rintro ⟨i0, u⟩ w6 next ⟨i, s6, rfl, hi, hw6, hst6⟩ hnext
  dsimp only
  have hc6 := toC hst6
  refine iteB_dec (fun h => ?_) (fun h => ?_)
  · have hlt : i < ps.length := by omega
    have hx := hsz ps[i] (List.getElem_mem _)
    have hbl := pcs_len (ps := ps.take i) fun x hx => hsz x (List.mem_of_mem_take hx)
    rw [List.length_take] at hbl
    obtain ⟨ad, cs, hp0, hidx⟩ := hs.at' hlt
    have hp := hp0.ch0 hc6
    refine hidx _ _ rfl ?_
    refine ldStr_of hp.c0 (ldI_of hp.c1 (ldI_of hp.c2 (ldI_of hp.c3 (ldI_of hp.c4 (ldS_of hp.c5 ?_)))))
    refine newPc fun k7 w7 hc7 hb7 hk7 => ?_
    refine ldStr_b (o := 0) hb7 rfl ?_
    have hw6b := hw6.lts
    have hst7 := hst6.thenC hc7
    refine fm_bytes strT TU8.und u8T fun sb w8 hr8 hc8 hb8 hl8 => ?_
    have z7 := hc7.size
    have hsb : ∀ k, blkOf sb = some k → k ≠ bw ∧ blkOf s6 ≠ some k := fun k hk => by
      rw [hb8] at hk
      cases hk
      exact ⟨by omega, fun he => by have := hw6b.2 _ he; omega⟩
    have hdl : ps[i].name.data.toList.length = ps[i].name.size := Array.length_toList
    have e10' := encU_ten ps[i].name.size (by omega)
    refine wbytes_ok ((hw6.ch0 hc7).ch0 hc8) hr8 (fun h => by simp [blkOf, h] at hb8) (fun _ => hsb) (by rw [List.length_append, List.length_append]; simp only [headB, List.length_cons, List.length_nil]; omega) fun s9 w9 hw9 hst9 => ?_
    have hst9' := (hst7.thenC hc8).tr hst9
    have hb9 := (hb7.ch0 hc8).ch hst9.ch.1 (fun hin => by
      rcases (show some k7 = some bw ∨ some k7 = blkOf s6 from hin) with h | h
      · cases h; omega
      · have := hw6b.2 _ h.symm; omega)
    rw [add_mk]
    refine ldI_b (o := 1) hb9 rfl ?_
    rw [add_mk, add_mk, add_mk, add_mk]
    refine ldI_b (o := 2) hb9 rfl (ldI_b (o := 3) hb9 rfl (ldI_b (o := 4) hb9 rfl (ldS_b (o := 5) (s := cs) hb9 rfl ?_)))
    rw [hdl] at hw9
    refine put_ok hw9 (fun w' hc' => (hp0.ch0 (hc6 |> fun _ => ?_)).rd) hx.1 (by rw [List.length_append, List.length_append, List.length_append]; simp only [headB, List.length_cons, List.length_nil]; rw [List.length_append]; omega) fun s10 w10 hw10 hst10 => ?_
    · exact Ch.trans (toC hst9') hc' fun j hj hin => by
        rcases (show some j = some bw ∨ some j = blkOf s9 from hin) with h | h
        · cases h; omega
        · rcases hst9'.blk j h.symm with h' | h'
          · cases h'
          · have := hc2.size; omega
    · rw [wrap_i64 (by omega)]
      refine hnext _ _ ⟨i + 1, s10, by simp, hlt, ?_, hst9'.tr hst10⟩ (by simp; omega)
      rw [List.take_succ_eq_append_getElem hlt, List.flatMap_append]
      simp only [List.flatMap_cons, List.flatMap_nil, List.append_nil]
      have epc : pcB ps[i] = encU ps[i].name.size ++ ps[i].name.data.toList ++ (putT ps[i].p.a ps[i].p.b ps[i].p.c ps[i].p.d ps[i].p.l).1 := rfl
      rw [epc]
      simp only [List.append_assoc] at hw10 ⊢
      exact hw10
  · have hie : i = ps.length := by omega
    subst hie
    rw [List.take_length] at hw6
    have hbl := pcs_len hsz
    refine wout_ok hw6 (by rw [List.length_append, List.length_append]; simp only [headB, List.length_cons, List.length_nil]; omega) fun s7 w7 ho7 (hc7 : Ch [] w6 w7) hn7 _ _ => ?_
    exact hK s7 w7 ho7 (hc6.tr hc7) (fun k hk => by have := hn7 k hk; have := hc6.size; omega)
end Go.Proofs.YtgpdecfcjpblgaaDoor
