/- AsmL: asm.List. -/
import Derived.Test.YthgkehldimldgaaDoorBld
set_option linter.unusedVariables false
set_option linter.unusedSimpArgs false
namespace Go.Lang
open Go Go.Lib
theorem bodyT_mono (l : List (Int × Int)) {i n : Nat} (h : i ≤ n) : (bodyT l i).length ≤ (bodyT l n).length := by
  induction n with
  | zero => obtain rfl : i = 0 := by omega
            exact Nat.le_refl _
  | succ n ih =>
    rcases Nat.lt_or_ge n i with g | g
    · obtain rfl : i = n + 1 := by omega
      exact Nat.le_refl _
    · have := ih (by omega)
      rw [bodyT_succ, List.length_append]; omega
def opT (x : Int × Int) : List UInt8 := if jmp x.1 then [32, 76] ++ itoa x.2 else if Names.wants x.1 then [32] ++ itoa x.2 else []
theorem lnT_eq (x : Int × Int) : lnT x = [32, 32] ++ (Names.spell x.1).data.toList ++ opT x ++ [10] := rfl
end Go.Lang
namespace Go.Proofs.YthgkehldimldgaaDoor
open Go Go.Sh Go.Pl Go.RowKit Go.Lang Go.Names Go.Lib
theorem number_ok' {n : Int} {w : World} {K : ByteArray → World → Prop} (h : Dig.I64 n) (hL : Lv w) (hK : ∀ w', Ch [] w w' → K (Dg n) w') : c_asm_number n w K := by
  refine sim_asm_number ?_
  unfold sh_asm_number
  exact digits_ok h hL hK
theorem label_ok {n : Int} {w : World} {K : ByteArray → World → Prop} (h : Dig.I64 n) (hL : Lv w) (hK : ∀ w', Ch [] w w' → K (ByteArray.mk #[76] ++ Dg n) w') : c_asm_label n w K := by
  refine sim_asm_label ?_
  unfold sh_asm_label
  have hd := Dg_size h
  refine digits_ok h hL fun w1 hc1 => ?_
  rw [show (ByteArray.mk (itoa n).toArray) = Dg n from rfl]
  exact catP_of (by simp only [mk_size, List.size_toArray, List.length_cons, List.length_nil]; omega) (hK w1 hc1)
theorem jumps_ok {op : Int} {w : World} {K : Bool → World → Prop} (hK : K (jmp op) w) : c_asm_jumps op w K := by
  refine sim_asm_jumps ?_
  unfold sh_asm_jumps
  unfold jmp at hK
  refine iteB_intro (fun h => ?_) fun h => ?_
  · rw [h] at hK; exact hK
  · rw [h] at hK; exact hK
theorem mapT' : Tryd.prog.underlying 61 = some (.map 3 3) := by kernel_rfl
theorem intT : Tryd.prog.underlying 3 = some (.int .i64) := by kernel_rfl
set_option maxHeartbeats 4000000 in
set_option maxRecDepth 20000 in
theorem list_ok {x : Pc} {cs : Slc} {B b : Nat} {l0 : List UInt8} {w : World} {K : World → Prop} (hbd : Bd w B b l0) (hL : ∀ w', Below B w w' → Lv w') (hrd : ∀ w', Below B w w' → RdC w' cs x.p.l) (hI : I64P x) (hl : x.p.l.length ≤ 8800000000000) (hn : x.name.size ≤ 140737488355328)
    (hlen : l0.length + (oneT x).length ≤ 140737488355328) (hK : ∀ w', Bd w' B b (l0 ++ oneT x) → Bk B b w w' → K w') : c_asm_list (some ⟨b, 0, none⟩) x.name x.p.a x.p.b x.p.c x.p.d cs w K := by
  refine sim_asm_list ?_
  unfold sh_asm_list
  obtain ⟨nm, a, pb, c, d, l⟩ := x
  obtain ⟨ha, hb, hc, hd, hy⟩ := hI
  dsimp only at hrd ha hb hc hd hy hl hn ⊢
  have da := Dg_size ha
  have db := Dg_size hb
  have dc := Dg_size hc
  have dd := Dg_size hd
  have ls := (hrd w (Below.refl _ _)).len
  have hB := hbd.2
  have hbl := hbd.lt
  refine newB fun k1 w1 hc1 hb1 hk1 hs1 => ?_
  refine ldI_b (o := 1) hb1 rfl ?_
  rw [add_mk, add_mk, add_mk, add_mk]
  refine ldI_b (o := 2) hb1 rfl (ldI_b (o := 3) hb1 rfl (ldI_b (o := 4) hb1 rfl (ldS_b (o := 5) (s := cs) hb1 rfl ?_)))
  refine newPr fun k2 w2 hc2 hb2 hk2 hs2 => ?_
  have hb1' := (hb1.ch0 hc2).ch0 (Ch.drew w2)
  have hb2' := hb2.ch0 (Ch.drew w2)
  have hc02 : Ch [] w w2.drew := (hc1.tr hc2).tr (Ch.drew w2)
  have lv : ∀ {w'}, Ch [] w w' → Lv w' := fun hc => hL _ (Below.down (Ch.below hc) hB)
  refine ldStr_b (o := 0) hb1' rfl ?_
  refine catP_of (by simp only [ByteArray.size_append, mk_size, List.size_toArray, List.length_cons, List.length_nil]; omega) ?_
  refine catP_of (by simp only [ByteArray.size_append, mk_size, List.size_toArray, List.length_cons, List.length_nil]; omega) ?_
  refine ldI_b (o := 0) hb2' rfl (ldI_b (o := 1) hb2' rfl (ldI_b (o := 2) hb2' rfl (ldI_b (o := 3) hb2' rfl ?_)))
  refine number_ok' ha (lv hc02) fun w3 hc3 => ?_
  have hb13 := hb1'.ch0 hc3
  have hb23 := hb2'.ch0 hc3
  have hc03 := hc02.tr hc3
  refine ⟨hb23.cellO rfl, hb23.cellO rfl, hb23.cellO rfl, hb13.cellZ rfl, ?_⟩
  refine catP_of (by simp only [ByteArray.size_append, mk_size, List.size_toArray, List.length_cons, List.length_nil]; omega) ?_
  refine catP_of (by simp only [ByteArray.size_append, mk_size, List.size_toArray, List.length_cons, List.length_nil]; omega) ?_
  refine number_ok' hb (lv hc03) fun w4 hc4 => ?_
  have hb14 := hb13.ch0 hc4
  have hb24 := hb23.ch0 hc4
  have hc04 := hc03.tr hc4
  refine ⟨hb24.cellO rfl, hb24.cellO rfl, hb14.cellZ rfl, ?_⟩
  refine catP_of (by simp only [ByteArray.size_append, mk_size, List.size_toArray, List.length_cons, List.length_nil]; omega) ?_
  refine catP_of (by simp only [ByteArray.size_append, mk_size, List.size_toArray, List.length_cons, List.length_nil]; omega) ?_
  refine number_ok' hc (lv hc04) fun w5 hc5 => ?_
  have hb15 := hb14.ch0 hc5
  have hb25 := hb24.ch0 hc5
  have hc05 := hc04.tr hc5
  refine ⟨hb25.cellO rfl, hb15.cellZ rfl, ?_⟩
  refine catP_of (by simp only [ByteArray.size_append, mk_size, List.size_toArray, List.length_cons, List.length_nil]; omega) ?_
  refine catP_of (by simp only [ByteArray.size_append, mk_size, List.size_toArray, List.length_cons, List.length_nil]; omega) ?_
  refine number_ok' hd (lv hc05) fun w6 hc6 => ?_
  have hb16 := hb15.ch0 hc6
  have hb26 := hb25.ch0 hc6
  have hc06 := hc05.tr hc6
  refine ⟨hb16.cellZ rfl, ?_⟩
  refine catP_of (by simp only [ByteArray.size_append, mk_size, List.size_toArray, List.length_cons, List.length_nil]; omega) ?_
  refine catP_of (by simp only [ByteArray.size_append, mk_size, List.size_toArray, List.length_cons, List.length_nil]; omega) ?_
  have hhd := hd_list nm a pb c d
  generalize ((((((((((ByteArray.mk #[112, 114, 111, 99, 32] ++ nm) ++ ByteArray.mk #[32, 97, 114, 103, 115, 32]) ++ Dg a) ++ ByteArray.mk #[32, 114, 101, 97, 100, 115, 32]) ++ Dg pb) ++ ByteArray.mk #[32, 119, 114, 105, 116, 101, 115, 32]) ++ Dg c) ++ ByteArray.mk #[32, 108, 111, 99, 97, 108, 115, 32]) ++ Dg d) ++ ByteArray.mk #[10]) = H at hhd ⊢
  have hHs : H.size = (hdT nm a pb c d).length := by rw [size_list, hhd]
  have hone : (oneT ⟨nm, ⟨a, pb, c, d, l⟩⟩).length = (hdT nm a pb c d).length + (bodyT l (l.length + 1)).length + 4 := by simp [oneT]; omega
  refine write_ok (hbd.ch0 hc06) (by omega) fun w7 hbd7 hk7 => ?_
  rw [hhd] at hbd7
  have hk07 : Bk B b w w7 := (Bk.of0 hc06 hB).trans hk7
  have hb27 := hk7.blk hb26 (by decide) (by omega)
  have z6 := hc06.size
  have z7 := hk7.below.size
  refine newMapI fun r w8 hm8 hc8 hr8 => ?_
  have hb28 := hb27.ch0 hc8
  refine ldS_b (o := 4) (s := cs) hb28 rfl ?_
  have rdw : ∀ {w'}, Bk B b w w' → RdC w' cs l := fun h => hrd _ h.below
  have lvw : ∀ {w'}, Bk B b w w' → Lv w' := fun h => hL _ h.below
  refine loopP_inv (fun st w9 => ∃ j : Nat, st.1 = (j : Int) ∧ j ≤ l.length ∧ Ch [] w7 w9 ∧ MapI w9 r (fun k => (aims (l.take j) k : Int))) (fun st _ => l.length - st.1.toNat) ⟨0, rfl, Nat.zero_le _, hc8, by simpa [aims] using hm8⟩ ?_
  rintro ⟨i0, u⟩ w9 next ⟨j, rfl, hj, hc9, hm9⟩ hnext
  dsimp only
  have hk09 : Bk B b w w9 := hk07.trans (Bk.of0 hc9 hbd7.2)
  refine iteB_dec (fun h => ?_) fun h => ?_
  · have hlt : j < l.length := by omega
    refine (rdw hk09).idx rfl hlt fun ad e1 e2 => ldI_of e1 (ldI_of e2 ?_)
    refine newIn fun k3 w10 hc10 hb10 hk10 hs10 => ?_
    have hm10 := hm9.ch0 hc10
    refine ldI_b (o := 0) hb10 rfl (jumps_ok ?_)
    rw [wrap_i64 (x := (j : Int) + 1) (by omega)]
    refine iteB_intro (fun hjm => ?_) fun hjm => ?_
    · refine ldI_b (o := 1) hb10 rfl ?_
      refine ⟨_, w10, lookI_ok _ mapT' intT intZ hm10, ?_⟩
      have hle := aims_le (l.take j) l[j].2
      have hle2 : (l.take j).length ≤ l.length := by rw [List.length_take]; omega
      rw [wrap_i64 (by omega)]
      refine updI_ok mapT' intT hm10 fun w11 hm11 hc11 hs11 => ?_
      refine hnext _ _ ⟨j + 1, by simp, hlt, (hc9.tr hc10).trN hc11 (by omega), ?_⟩ (by simp; omega)
      have e : (fun x => if x = l[j].2 then ((aims (l.take j) l[j].2 : Nat) : Int) + 1 else (aims (l.take j) x : Int)) = fun k => (aims (l.take (j + 1)) k : Int) := by
        funext k
        rw [aims_take hlt]
        by_cases hk : k = l[j].2
        · subst hk; simp [hjm]
        · rw [if_neg hk, if_neg (by simp [hjm]; exact fun hh => hk hh.symm)]; simp
      rw [← e]; exact hm11
    · refine hnext _ _ ⟨j + 1, by simp, hlt, hc9.tr hc10, ?_⟩ (by simp; omega)
      have e : (fun k => (aims (l.take j) k : Int)) = fun k => (aims (l.take (j + 1)) k : Int) := by
        funext k
        rw [aims_take hlt, if_neg (by simp [hjm])]; simp
      rw [← e]; exact hm10
  have hje : j = l.length := by omega
  subst hje
  rw [List.take_length] at hm9
  have hbd9 := hbd7.ch0 hc9
  have hb29 := hb27.ch0 hc9
  have z9 := hc9.size
  clear hnext
  refine loopP_inv (fun st w10 => ∃ i : Nat, st.1 = (i : Int) ∧ i ≤ l.length + 1 ∧ Bk B b w9 w10 ∧ Bd w10 B b (l0 ++ hdT nm a pb c d ++ bodyT l i)) (fun st _ => l.length + 1 - st.1.toNat) ⟨0, rfl, Nat.zero_le _, Bk.refl _ _ _, by simpa [bodyT] using hbd9⟩ ?_
  rintro ⟨i0, u⟩ w10 next ⟨i, rfl, hi, hk10, hbd10⟩ hnext
  dsimp only
  have hb210 := hk10.blk hb29 (by decide) (by omega)
  have z10 := hk10.below.size
  have fin : ∀ w11, Bk B b w9 w11 → Bd w11 B b (l0 ++ hdT nm a pb c d ++ bodyT l (l.length + 1)) → c_strings_Builder_WriteString (some ⟨b, 0, none⟩) (ByteArray.mk #[101, 110, 100, 10]) w11 fun r109 r110 w111 => K w111 := fun w11 hk11 hbd11 => by
    refine write_ok hbd11 (by rw [mk_size]; simp only [List.length_append, List.size_toArray, List.length_cons, List.length_nil]; omega) fun w12 hbd12 hk12 => ?_
    refine hK w12 ?_ ((hk09.trans hk11).trans hk12)
    have e : l0 ++ hdT nm a pb c d ++ bodyT l (l.length + 1) ++ (ByteArray.mk #[101, 110, 100, 10]).data.toList = l0 ++ oneT ⟨nm, ⟨a, pb, c, d, l⟩⟩ := by simp [oneT]
    rw [e] at hbd12
    exact hbd12
  refine ldS_b (o := 4) (s := cs) hb210 rfl (iteB_dec (fun h => ?_) fun h => ?_)
  rotate_left
  · obtain rfl : i = l.length + 1 := by omega
    exact fin w10 hk10 hbd10
  have hle : i ≤ l.length := by omega
  have hi64 : Dig.I64 (i : Int) := by unfold Dig.I64; omega
  have hmono := bodyT_mono l (i := i + 1) (n := l.length + 1) (by omega)
  have hsucc := bodyT_succ l i
  have hbl2 : (bodyT l (i + 1)).length = (bodyT l i).length + (lbT l i).length + (lnO l[i]?).length := by rw [hsucc]; simp [itT]; omega
  have hm10 := hk10.map hm9 (by omega)
  refine ⟨fun _ w11 => Bk B b w9 w11 ∧ Bd w11 B b (l0 ++ hdT nm a pb c d ++ bodyT l i ++ lbT l i), ?_, ?_⟩
  rotate_left
  · dsimp only
    refine ⟨_, w10, lookI_ok _ mapT' intT intZ hm10, ?_⟩
    refine iteB_dec (fun g => ?_) fun g => ?_
    · have hne : aims l i ≠ 0 := by omega
      have hlb : lbT l i = [76] ++ itoa i ++ [58, 10] := by unfold lbT; rw [if_neg hne]
      have hdi := Dg_size hi64
      refine label_ok hi64 (lvw (hk09.trans hk10)) fun w11 hc11 => ?_
      refine catP_of (by simp only [ByteArray.size_append, mk_size, List.size_toArray, List.length_cons, List.length_nil]; omega) ?_
      refine write_ok (hbd10.ch0 hc11) (by simp only [ByteArray.size_append, mk_size, List.size_toArray, List.length_append, List.length_cons, List.length_nil]; rw [size_list, Dg_list]; rw [hlb] at hbl2; simp at hbl2; omega) fun w12 hbd12 hk12 => ?_
      refine ⟨(hk10.trans (Bk.of0 hc11 hbd10.2)).trans hk12, ?_⟩
      have e : l0 ++ hdT nm a pb c d ++ bodyT l i ++ ((ByteArray.mk #[76] ++ Dg (i : Int)) ++ ByteArray.mk #[58, 10]).data.toList = l0 ++ hdT nm a pb c d ++ bodyT l i ++ lbT l i := by
        rw [hlb]; simp [ByteArray.data_append, Array.toList_append, Dg_list]
      rw [e] at hbd12
      exact hbd12
    · have h0 : aims l i = 0 := by omega
      refine ⟨hk10, ?_⟩
      have e : lbT l i = [] := by unfold lbT; rw [if_pos h0]
      rw [e, List.append_nil]
      exact hbd10
  rintro _ w11 ⟨hk11, hbd11⟩
  have hb211 := hk11.blk hb29 (by decide) (by omega)
  have z11 := hk11.below.size
  refine ldS_b (o := 4) (s := cs) hb211 rfl (iteB_eq (fun g => ?_) fun g => ?_)
  · obtain rfl : i = l.length := by omega
    refine fin w11 hk11 ?_
    have e : itT l l.length = lbT l l.length := by simp [itT, lnO]
    rw [bodyT_succ, e, ← List.append_assoc]
    exact hbd11
  have hlt : i < l.length := by omega
  have hln : lnO l[i]? = lnT l[i] := by rw [List.getElem?_eq_getElem hlt]; rfl
  have hyi := (hy l[i] (by simp)).2
  rw [hln, lnT_eq] at hbl2
  have hstep : bodyT l (i + 1) = bodyT l i ++ lbT l i ++ ([32, 32] ++ (spell l[i].1).data.toList ++ opT l[i] ++ [10]) := by
    rw [hsucc, itT, hln, lnT_eq, ← List.append_assoc]
  generalize hX : l[i] = X at *
  obtain ⟨op, v⟩ := X
  have hsp := spell_len op
  refine ldS_b (o := 4) (s := cs) hb211 rfl ?_
  refine (rdw (hk09.trans hk11)).idx rfl hlt fun ad e1 e2 => ?_
  rw [hX] at e1 e2
  refine ldI_of e1 (ldI_of e2 ?_)
  refine newIn fun k3 w12 hc12 hb12 hk12 hs12 => ?_
  refine ldI_b (o := 0) hb12 rfl ?_
  refine spell_ok fun w13 (hc13 : Ch [] w12 w13) => ?_
  have hc113 := hc12.tr hc13
  have hb13 := hb12.ch0 hc13
  dsimp only at hsp hbl2 hstep
  simp only [List.length_append, List.length_cons, List.length_nil] at hbl2
  refine catP_of (by simp only [ByteArray.size_append, mk_size, List.size_toArray, List.length_cons, List.length_nil]; rw [size_list]; omega) ?_
  refine write_ok (hbd11.ch0 hc113) (by simp only [ByteArray.size_append, mk_size, List.size_toArray, List.length_append, List.length_cons, List.length_nil]; rw [size_list]; omega) fun w14 hbd14 hk14 => ?_
  have e14 : (ByteArray.mk #[32, 32] ++ spell op).data.toList = [32, 32] ++ (spell op).data.toList := by simp [ByteArray.data_append, Array.toList_append]
  rw [e14] at hbd14
  have hk914 : Bk B b w9 w14 := (hk11.trans (Bk.of0 hc113 hbd11.2)).trans hk14
  have hb14 := hk14.blk hb13 (by decide) (by omega)
  refine ⟨fun _ w15 => Bk B b w9 w15 ∧ Bd w15 B b (l0 ++ hdT nm a pb c d ++ bodyT l i ++ lbT l i ++ ([32, 32] ++ (spell op).data.toList) ++ opT (op, v)), ?_, ?_⟩
  rotate_left
  · dsimp only
    refine ldI_b (o := 0) hb14 rfl (jumps_ok ?_)
    have hdv := Dg_size hyi
    refine iteB_intro (fun hj => ?_) fun hj => ?_
    · have ho : opT (op, v) = [32, 76] ++ itoa v := by unfold opT; rw [if_pos hj]
      rw [ho] at hbl2
      simp only [List.length_append, List.length_cons, List.length_nil] at hbl2
      refine ldI_b (o := 1) hb14 rfl ?_
      refine label_ok hyi (lvw (hk09.trans hk914)) fun w15 hc15 => ?_
      refine catP_of (by simp only [ByteArray.size_append, mk_size, List.size_toArray, List.length_cons, List.length_nil]; dsimp only at hdv ⊢; omega) ?_
      refine write_ok (hbd14.ch0 hc15) (by simp only [ByteArray.size_append, mk_size, List.size_toArray, List.length_append, List.length_cons, List.length_nil]; rw [size_list (Dg _), Dg_list]; omega) fun w16 hbd16 hk16 => ?_
      refine ⟨(hk914.trans (Bk.of0 hc15 hbd14.2)).trans hk16, ?_⟩
      have e : (ByteArray.mk #[32] ++ (ByteArray.mk #[76] ++ Dg v)).data.toList = opT (op, v) := by
        rw [ho]; simp [ByteArray.data_append, Array.toList_append, Dg_list]
      rw [e] at hbd16
      exact hbd16
    · refine ldI_b (o := 0) hb14 rfl (wants_ok ?_)
      refine iteB_intro (fun hw => ?_) fun hw => ?_
      · have ho : opT (op, v) = [32] ++ itoa v := by unfold opT; rw [if_neg (by rw [hj]; simp), if_pos hw]
        rw [ho] at hbl2
        simp only [List.length_append, List.length_cons, List.length_nil] at hbl2
        refine ldI_b (o := 1) hb14 rfl ?_
        refine digits_ok hyi (lvw (hk09.trans hk914)) fun w15 hc15 => ?_
        refine catP_of (by simp only [ByteArray.size_append, mk_size, List.size_toArray, List.length_cons, List.length_nil]; have : (ByteArray.mk (itoa v).toArray).size ≤ 21 := hdv; simp [mk_size] at this; omega) ?_
        rw [show (ByteArray.mk (itoa v).toArray) = Dg v from rfl]
        refine write_ok (hbd14.ch0 hc15) (by simp only [ByteArray.size_append, mk_size, List.size_toArray, List.length_append, List.length_cons, List.length_nil]; rw [size_list (Dg _), Dg_list]; omega) fun w16 hbd16 hk16 => ?_
        refine ⟨(hk914.trans (Bk.of0 hc15 hbd14.2)).trans hk16, ?_⟩
        have e : (ByteArray.mk #[32] ++ Dg v).data.toList = opT (op, v) := by
          rw [ho]; simp [ByteArray.data_append, Array.toList_append, Dg_list]
        rw [e] at hbd16
        exact hbd16
      · have ho : opT (op, v) = [] := by unfold opT; rw [if_neg (by rw [hj]; simp), if_neg (by rw [hw]; simp)]
        refine ⟨hk914, ?_⟩
        rw [ho, List.append_nil]
        exact hbd14
  rintro _ w15 ⟨hk15, hbd15⟩
  refine write_ok hbd15 (by simp only [mk_size, List.size_toArray, List.length_append, List.length_cons, List.length_nil]; omega) fun w16 hbd16 hk16 => ?_
  rw [wrap_i64 (by omega)]
  refine hnext _ _ ⟨i + 1, by simp, by omega, hk15.trans hk16, ?_⟩ (by simp; omega)
  have e : l0 ++ hdT nm a pb c d ++ bodyT l (i + 1) = l0 ++ hdT nm a pb c d ++ bodyT l i ++ lbT l i ++ ([32, 32] ++ (spell op).data.toList) ++ opT (op, v) ++ (ByteArray.mk #[10]).data.toList := by
    rw [hstep]; simp
  rw [e]
  exact hbd16
theorem alist_ok {s : Slc} {ps : List Pc} {w : World} {K : ByteArray → Int → World → Prop} (hs : RdL w s ps) (hL : Lv w) (hI : ∀ x ∈ ps, I64P x) (hb : bulkN ps ≤ 100000)
    (hK : ∀ w', Ch [] w w' → K ⟨(listT ps).1.toArray⟩ (listT ps).2 w') : c_asm_List s w K := by
  refine sim_asm_List ?_
  unfold sh_asm_List
  have ls := hs.len
  unfold listT at hK
  refine check_ok hs fun w1 hc1 => ?_
  refine iteB_ne (fun h => ?_) fun h => ?_
  · rw [if_pos h] at hK
    exact hK w1 hc1
  rw [if_neg (fun hh => hh h)] at hK
  have few : ∀ x ∈ ps, x.p.l.length ≤ 8800000000000 := fun x hx => by
    obtain ⟨i, hi⟩ := List.getElem?_of_mem hx
    obtain ⟨ad, cs, _, hp⟩ := hs.at_ i x hi
    exact hp.few
  have hlen := txtT_len (ps := ps) fun x hx => ⟨hI x hx, few x hx⟩
  have hpl := bulkN_len ps
  refine newB fun b w2 hc2 hb2 hk2 hs2 => ?_
  have hs1 := hs.ch0 hc1
  have hL1 := hL.ch0 hc1
  have hbd2 := Bd.new (B := w1.heap.size) hb2 (by omega)
  have bch : ∀ {w'}, Below w1.heap.size w2 w' → Ch [] w1 w' := fun h => ch_below ((Ch.below hc2).trans h)
  refine loopP_inv (fun st w3 => ∃ i : Nat, st.1 = (i : Int) ∧ i ≤ ps.length ∧ Below w1.heap.size w2 w3 ∧ Bd w3 w1.heap.size b (txtT (ps.take i))) (fun st _ => ps.length - st.1.toNat) ⟨0, rfl, Nat.zero_le _, Below.refl _ _, by simpa [txtT] using hbd2⟩ ?_
  rintro ⟨i0, u⟩ w3 next ⟨i, rfl, hi, hbel3, hbd3⟩ hnext
  dsimp only
  have hc13 := bch hbel3
  refine iteB_dec (fun g => ?_) fun g => ?_
  · have hlt : i < ps.length := by omega
    have hmi := List.getElem_mem hlt
    have hbt := bulkN_take hlt
    have hbm := bulkN_mono ps (i + 1)
    have htl := txtT_len (ps := ps.take i) fun x hx => ⟨hI x (List.mem_of_mem_take hx), few x (List.mem_of_mem_take hx)⟩
    obtain ⟨ad, cs, hp, hidx⟩ := hs1.at' hlt
    have hp3 := hp.ch0 hc13
    refine hidx _ _ rfl ?_
    refine ldStr_of hp3.c0 (ldI_of hp3.c1 (ldI_of hp3.c2 (ldI_of hp3.c3 (ldI_of hp3.c4 (ldS_of (s := cs) hp3.c5 ?_)))))
    refine newPc fun k4 w4 hc4 hb4 hk4 => ?_
    refine ldStr_b (o := 0) hb4 rfl (ldI_b (o := 1) hb4 rfl (ldI_b (o := 2) hb4 rfl (ldI_b (o := 3) hb4 rfl (ldI_b (o := 4) hb4 rfl (ldS_b (o := 5) (s := cs) hb4 rfl ?_)))))
    have bel4 : Below w1.heap.size w3 w4 := Below.down (Ch.below hc4) hbd3.2
    have to1 : ∀ {w'}, Below w1.heap.size w4 w' → Ch [] w1 w' := fun h => bch ((hbel3.trans bel4).trans h)
    have ho := oneT_len (hI _ hmi) hp.few
    refine list_ok (hbd3.ch0 hc4) (fun w' h => hL1.ch0 (to1 h)) (fun w' h => hp.rd.ch0 (to1 h)) (hI _ hmi) hp.few (by omega) (by omega) fun w5 hbd5 hk5 => ?_
    rw [wrap_i64 (by omega)]
    refine hnext _ _ ⟨i + 1, by simp, hlt, (hbel3.trans bel4).trans hk5.below, ?_⟩ (by simp; omega)
    rw [txtT_take hlt]
    exact hbd5
  · have hie : i = ps.length := by omega
    rw [hie, List.take_length] at hbd3
    refine blen_ok hbd3 (iteB_dec (fun g' => ?_) fun g' => ?_)
    · rw [if_pos (by omega)] at hK
      exact hK w3 (hc1.tr hc13)
    · rw [if_neg (by omega)] at hK
      refine bstr_ok hbd3 fun w4 hbel4 => ?_
      exact hK w4 (hc1.tr (bch (hbel3.trans hbel4)))
end Go.Proofs.YthgkehldimldgaaDoor
