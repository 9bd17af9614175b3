/- AsmR: the document's List. -/
import Derived.Test.YthgkehldimldgaaDoorTxt
import Derived.Test.YthgkehldimldgaaDoorLibB
import Derived.Test.YthgkehldimldgaaDoorDigits
set_option linter.unusedVariables false
set_option linter.unusedSimpArgs false
namespace Go.Pl
open Go Go.Sh Go.RowKit Go.Lang Go.Lib
def Dg (n : Int) : ByteArray := ⟨(itoa n).toArray⟩
theorem Dg_list (n : Int) : (Dg n).data.toList = itoa n := by simp [Dg]
theorem Dg_size {n : Int} (h : Dig.I64 n) : (Dg n).size ≤ 21 := by
  have := itoa_len h
  show (itoa n).toArray.size ≤ 21
  simpa using this
theorem mk_size (a : Array UInt8) : (ByteArray.mk a).size = a.size := rfl
theorem size_list (a : ByteArray) : a.size = a.data.toList.length := Array.length_toList.symm
theorem catP_of {x y : ByteArray} {K : Prop} (h : x.size + y.size ≤ 9223372036854775807) (hK : K) : catP x y K := by
  have hm : IntKind.i64.max = 9223372036854775807 := by decide
  exact ⟨by rw [hm]; omega, hK⟩
theorem Blk.cellZ {w : World} {b : Nat} {cur : Array Value} {t : TypeId} {v : Value} (h : Blk w b cur t) (hv : cur[0]? = some v) : w.cell? ⟨b, 0, none⟩ = some v := by rw [h.cell]; exact hv
theorem cellc {w w' : World} {ad : Addr} {v : Value} (h : w.cell? ad = some v) (hc : Ch [] w w') : w'.cell? ad = some v := cell_chg (show Chg Nil w w' from hc) h fun h => h
theorem Blk.cellO {w : World} {b o : Nat} {cur : Array Value} {t : TypeId} {v : Value} (h : Blk w b cur t) (hv : cur[o]? = some v) : w.cell? ((⟨b, 0, none⟩ : Addr).add o) = some v := by
  rw [add_mk, Nat.zero_add, h.cell]; exact hv
theorem jmp_iff (op : Int) : jmp op = true ↔ op = 30 ∨ op = 31 := by simp [jmp]
end Go.Pl
namespace Go.Proofs.YthgkehldimldgaaDoor
open Go Go.Sh Go.Pl Go.RowKit Go.Lang Go.Names Go.Lib
theorem target_ok {a b c d : Int} {cs : Slc} {l : List (Int × Int)} {i : Nat} {w : World} {K : Bool → World → Prop} (hrd : RdC w cs l) (hl : l.length ≤ 8800000000000)
    (hK : ∀ w', Ch [] w w' → K (decide (aims l i ≠ 0)) w') : c_preluderef04_target a b c d cs (i : Int) w K := by
  refine sim_preluderef04_target ?_
  unfold sh_preluderef04_target
  have ls := hrd.len
  refine newB fun k1 w1 hc1 hb1 hk1 hs1 => ?_
  refine loopP_inv (fun st w2 => ∃ j : Nat, st.1 = (j : Int) ∧ j ≤ l.length ∧ Ch [] w1 w2 ∧ aims (l.take j) i = 0) (fun st _ => l.length - st.1.toNat) ⟨0, rfl, Nat.zero_le _, Ch.refl _ _, by simp [aims]⟩ ?_
  rintro ⟨i0, u⟩ w2 next ⟨j, rfl, hj, hc2, ha⟩ hnext
  dsimp only
  have hb2 := hb1.ch0 hc2
  refine ldS_b (s := cs) hb2 rfl (iteB_dec (fun h => ?_) fun h => ?_)
  · have hlt : j < l.length := by omega
    refine ldS_b (s := cs) hb2 rfl ?_
    refine (hrd.ch0 (hc1.tr hc2)).idx rfl hlt fun ad e1 e2 => ldI_of e1 (ldI_of e2 ?_)
    refine newIn fun k3 w3 hc3 hb3 hk3 hs3 => ?_
    have hc03 := (hc1.tr hc2).tr hc3
    have yes : jmp l[j].1 = true → l[j].2 = (i : Int) → K true w3 := fun h1 h2 => by
      have := hK w3 hc03
      rwa [decide_eq_true (aims_pos.2 ⟨j, hlt, h1, h2⟩)] at this
    have no : ¬ (jmp l[j].1 = true ∧ l[j].2 = (i : Int)) → next (IntKind.i64.wrap ((j : Int) + 1), ()) w3 := fun hn => by
      rw [wrap_i64 (by omega)]
      refine hnext _ _ ⟨j + 1, by simp, hlt, hc2.tr hc3, ?_⟩ (by simp; omega)
      rw [aims_take hlt, ha, if_neg (by simpa using hn)]
    refine ldI_b (o := 0) hb3 rfl (iteB_eq (fun g => ?_) fun g => ?_)
    · refine ldI_b (o := 1) hb3 rfl (iteB_eq (fun g' => yes ((jmp_iff _).2 (.inl g)) g') fun g' => no fun hh => g' hh.2)
    refine ldI_b (o := 0) hb3 rfl (iteB_eq (fun g' => ?_) fun g' => no fun hh => ((jmp_iff _).1 hh.1).elim g g')
    exact ldI_b (o := 1) hb3 rfl (iteB_eq (fun g'' => yes ((jmp_iff _).2 (.inr g')) g'') fun g'' => no fun hh => g'' hh.2)
  · have hje : j = l.length := by omega
    subst hje
    rw [List.take_length] at ha
    have := hK w2 (hc1.tr hc2)
    rwa [decide_eq_false (by rw [ha]; simp)] at this
theorem spelt_ok {x : Int × Int} {w : World} {K : ByteArray → World → Prop} (hx : Dig.I64 x.2) (hK : ∀ w', Ch [] w w' → K ⟨(lnT x).toArray⟩ w') : c_preluderef04_spelt x.1 x.2 w K := by
  refine sim_preluderef04_spelt ?_
  unfold sh_preluderef04_spelt
  obtain ⟨op, v⟩ := x
  dsimp only at hx ⊢
  have hsp := spell_len op
  rw [← size_list] at hsp
  have hdg := Dg_size hx
  refine newB fun k1 w1 hc1 hb1 hk1 hs1 => ?_
  refine ldI_b (o := 0) hb1 rfl ?_
  refine refSpell_ok fun w2 (hc2 : Ch [] w1 w2) => ?_
  refine catP_of (by simp only [ByteArray.size_append, mk_size, List.size_toArray, List.length_cons, List.length_nil]; omega) ?_
  refine ldI_b (o := 0) (hb1.ch0 hc2) rfl ?_
  refine refWants_ok fun w3 (hc3 : Ch [] w2 w3) => ?_
  have hc13 := hc2.tr hc3
  have hb3 := hb1.ch0 hc13
  have fin : ∀ (s : ByteArray) (w' : World), s.data.toList = lnT (op, v) → Ch [] w w' → K s w' := fun s w' hs hc => by
    rw [of_list hs]; exact hK w' hc
  refine iteB_intro (fun hw => ?_) fun hw => ?_
  · refine catP_of (by simp only [ByteArray.size_append, mk_size, List.size_toArray, List.length_cons, List.length_nil]; omega) ?_
    refine fin _ w3 ?_ (hc1.tr hc13)
    have hw' : wants op = false := by simpa using hw
    have hj : jmp op = false := by
      cases h : jmp op with
      | false => rfl
      | true => rcases (jmp_iff op).1 h with rfl | rfl <;> simp [wants] at hw'
    simp [lnT, hj, hw', ByteArray.data_append, Array.toList_append]
  · have hw' : wants op = true := by simpa using hw
    refine ldI_b (o := 1) hb3 rfl ?_
    refine refDigits_ok hx fun w4 hc4 => ?_
    show ldI .i64 _ w4 _
    have e : (ByteArray.mk (itoa v).toArray) = Dg v := rfl
    rw [e]
    have hb4 := hb3.ch0 hc4
    have hc04 := (hc1.tr hc13).tr hc4
    have j1 : jmp op = true → catP (ByteArray.mk #[76]) (Dg v) (catP (ByteArray.mk #[32, 32] ++ spell op) (ByteArray.mk #[32]) (catP ((ByteArray.mk #[32, 32] ++ spell op) ++ ByteArray.mk #[32]) (ByteArray.mk #[76] ++ Dg v) (catP (((ByteArray.mk #[32, 32] ++ spell op) ++ ByteArray.mk #[32]) ++ (ByteArray.mk #[76] ++ Dg v)) (ByteArray.mk #[10]) (K ((((ByteArray.mk #[32, 32] ++ spell op) ++ ByteArray.mk #[32]) ++ (ByteArray.mk #[76] ++ Dg v)) ++ ByteArray.mk #[10]) w4)))) := fun hj => by
      refine catP_of (by simp only [ByteArray.size_append, mk_size, List.size_toArray, List.length_cons, List.length_nil]; omega) ?_
      refine catP_of (by simp only [ByteArray.size_append, mk_size, List.size_toArray, List.length_cons, List.length_nil]; omega) ?_
      refine catP_of (by simp only [ByteArray.size_append, mk_size, List.size_toArray, List.length_cons, List.length_nil]; omega) ?_
      refine catP_of (by simp only [ByteArray.size_append, mk_size, List.size_toArray, List.length_cons, List.length_nil]; omega) ?_
      refine fin _ w4 ?_ hc04
      simp [lnT, hj, ByteArray.data_append, Array.toList_append, Dg_list]
    refine ldI_b (o := 0) hb4 rfl (iteB_eq (fun g => j1 ((jmp_iff _).2 (.inl g))) fun g => ?_)
    refine ldI_b (o := 0) hb4 rfl (iteB_eq (fun g' => j1 ((jmp_iff _).2 (.inr g'))) fun g' => ?_)
    have hj : jmp op = false := by
      cases h : jmp op with
      | false => rfl
      | true => rcases (jmp_iff op).1 h with rfl | rfl <;> contradiction
    refine catP_of (by simp only [ByteArray.size_append, mk_size, List.size_toArray, List.length_cons, List.length_nil]; omega) ?_
    refine catP_of (by simp only [ByteArray.size_append, mk_size, List.size_toArray, List.length_cons, List.length_nil]; omega) ?_
    refine catP_of (by simp only [ByteArray.size_append, mk_size, List.size_toArray, List.length_cons, List.length_nil]; omega) ?_
    refine fin _ w4 ?_ hc04
    simp [lnT, hj, hw', ByteArray.data_append, Array.toList_append, Dg_list]
theorem hd_list (nm : ByteArray) (a b c d : Int) : ((((((((((ByteArray.mk #[112, 114, 111, 99, 32] ++ nm) ++ ByteArray.mk #[32, 97, 114, 103, 115, 32]) ++ Dg a) ++ ByteArray.mk #[32, 114, 101, 97, 100, 115, 32]) ++ Dg b) ++ ByteArray.mk #[32, 119, 114, 105, 116, 101, 115, 32]) ++ Dg c) ++ ByteArray.mk #[32, 108, 111, 99, 97, 108, 115, 32]) ++ Dg d) ++ ByteArray.mk #[10]).data.toList = hdT nm a b c d := by
  simp [hdT, ByteArray.data_append, Array.toList_append, Dg_list]
set_option maxHeartbeats 2000000 in
set_option maxRecDepth 20000 in
theorem rone_ok {x : Pc} {cs : Slc} {w : World} {K : ByteArray → World → Prop} (hrd : RdC w cs x.p.l) (hI : I64P x) (hl : x.p.l.length ≤ 8800000000000) (hn : x.name.size ≤ 140737488355328)
    (hK : ∀ w', Ch [] w w' → K ⟨(oneT x).toArray⟩ w') : c_preluderef04_one x.name x.p.a x.p.b x.p.c x.p.d cs w K := by
  refine sim_preluderef04_one ?_
  unfold sh_preluderef04_one
  obtain ⟨nm, a, b, c, d, l⟩ := x
  obtain ⟨ha, hb, hc, hd, hy⟩ := hI
  dsimp only at hrd ha hb hc hd hy hl hn ⊢
  have da := Dg_size ha
  have db := Dg_size hb
  have dc := Dg_size hc
  have dd := Dg_size hd
  have ls := hrd.len
  refine newB fun k1 w1 hc1 hb1 hk1 hs1 => ?_
  refine ldI_b (o := 1) hb1 rfl ?_
  rw [add_mk, add_mk, add_mk, add_mk]
  refine ldI_b (o := 2) hb1 rfl (ldI_b (o := 3) hb1 rfl (ldI_b (o := 4) hb1 rfl (ldS_b (o := 5) (s := cs) hb1 rfl ?_)))
  refine newPr fun k2 w2 hc2 hb2 hk2 hs2 => ?_
  have hb1' := (hb1.ch0 hc2).ch0 (Ch.drew w2)
  have hb2' := hb2.ch0 (Ch.drew w2)
  have hc02 : Ch [] w w2.drew := (hc1.tr hc2).tr (Ch.drew w2)
  refine ldStr_b (o := 0) hb1' rfl ?_
  refine catP_of (by simp only [ByteArray.size_append, mk_size, List.size_toArray, List.length_cons, List.length_nil]; omega) ?_
  refine catP_of (by simp only [ByteArray.size_append, mk_size, List.size_toArray, List.length_cons, List.length_nil]; omega) ?_
  refine ldI_b (o := 0) hb2' rfl (ldI_b (o := 1) hb2' rfl ?_)
  refine refDigits_ok ha fun w3 hc3 => ?_
  have hb13 := hb1'.ch0 hc3
  have hb23 := hb2'.ch0 hc3
  refine ⟨hb23.cellO rfl, hb13.cellZ rfl, ?_⟩
  rw [show (ByteArray.mk (itoa a).toArray) = Dg a from rfl]
  refine catP_of (by simp only [ByteArray.size_append, mk_size, List.size_toArray, List.length_cons, List.length_nil]; omega) ?_
  refine catP_of (by simp only [ByteArray.size_append, mk_size, List.size_toArray, List.length_cons, List.length_nil]; omega) ?_
  refine refDigits_ok hb fun w4 hc4 => ?_
  refine ⟨(hb13.ch0 hc4).cellZ rfl, ?_⟩
  rw [show (ByteArray.mk (itoa b).toArray) = Dg b from rfl]
  refine catP_of (by simp only [ByteArray.size_append, mk_size, List.size_toArray, List.length_cons, List.length_nil]; omega) ?_
  refine catP_of (by simp only [ByteArray.size_append, mk_size, List.size_toArray, List.length_cons, List.length_nil]; omega) ?_
  have hb24 := (hb23.ch0 hc4).ch0 (Ch.drew w4)
  refine ldI_b (o := 2) hb24 rfl (ldI_b (o := 3) hb24 rfl ?_)
  refine refDigits_ok hc fun w5 hc5 => ?_
  have hb25 := hb24.ch0 hc5
  refine ⟨hb25.cellO rfl, ?_⟩
  rw [show (ByteArray.mk (itoa c).toArray) = Dg c from rfl]
  refine catP_of (by simp only [ByteArray.size_append, mk_size, List.size_toArray, List.length_cons, List.length_nil]; omega) ?_
  refine catP_of (by simp only [ByteArray.size_append, mk_size, List.size_toArray, List.length_cons, List.length_nil]; omega) ?_
  refine refDigits_ok hd fun w6 hc6 => ?_
  have hb26 := hb25.ch0 hc6
  rw [show (ByteArray.mk (itoa d).toArray) = Dg d from rfl]
  refine catP_of (by simp only [ByteArray.size_append, mk_size, List.size_toArray, List.length_cons, List.length_nil]; omega) ?_
  refine catP_of (by simp only [ByteArray.size_append, mk_size, List.size_toArray, List.length_cons, List.length_nil]; omega) ?_
  have hc06 : Ch [] w w6 := (((((hc02.tr hc3).tr hc4).tr (Ch.drew w4)).tr hc5).tr hc6)
  have hhd := hd_list nm a b c d
  have hdl := hdT_len (nm := nm) ha hb hc hd
  generalize ((((((((((ByteArray.mk #[112, 114, 111, 99, 32] ++ nm) ++ ByteArray.mk #[32, 97, 114, 103, 115, 32]) ++ Dg a) ++ ByteArray.mk #[32, 114, 101, 97, 100, 115, 32]) ++ Dg b) ++ ByteArray.mk #[32, 119, 114, 105, 116, 101, 115, 32]) ++ Dg c) ++ ByteArray.mk #[32, 108, 111, 99, 97, 108, 115, 32]) ++ Dg d) ++ ByteArray.mk #[10]) = H at hhd ⊢
  refine loopP_inv (fun st w7 => ∃ i : Nat, st.2.1 = (i : Int) ∧ i ≤ l.length + 1 ∧ Ch [] w6 w7 ∧ st.1.data.toList = hdT nm a b c d ++ bodyT l i) (fun st _ => l.length + 1 - st.2.1.toNat) ⟨0, rfl, Nat.zero_le _, Ch.refl _ _, by simp [hhd, bodyT]⟩ ?_
  rintro ⟨s, i0, u⟩ w7 next ⟨i, rfl, hi, hc7, hs⟩ hnext
  dsimp only at hs ⊢
  have hb27 := hb26.ch0 hc7
  have hbl := bodyT_len (fun y hy' => (hy y hy').2) (n := i) (by omega)
  have hsz : s.size ≤ 500000000000000000 := by
    rw [size_list, hs, List.length_append]; omega
  refine ldS_b (o := 4) (s := cs) hb27 rfl (iteB_dec (fun h => ?_) fun h => ?_)
  · have hle : i ≤ l.length := by omega
    refine ldI_b (o := 0) hb27 rfl (ldI_b (o := 1) hb27 rfl (ldI_b (o := 2) hb27 rfl (ldI_b (o := 3) hb27 rfl (ldS_b (o := 4) (s := cs) hb27 rfl ?_))))
    refine target_ok (hrd.ch0 (hc06.tr hc7)) hl fun w8 hc8 => ?_
    -- what stands behind the label
    have rest : ∀ (s' : ByteArray) (w9 : World), Ch [] w7 w9 → s'.size ≤ 600000000000000000 → s'.data.toList = s.data.toList ++ lbT l i →
        ldS ((⟨k2, 0, none⟩ : Addr).add 4) w9 fun s50 => iteB (decide ((i : Int) < (s50.l : Int)))
          (ldS ((⟨k2, 0, none⟩ : Addr).add 4) w9 fun s51 => idxP s51.a s51.l i 2 fun a52 => ldI .i64 a52 w9 fun n53 => ldI .i64 (a52.add 1) w9 fun n54 => c_preluderef04_spelt n53 n54 w9 fun r55 w56 => catP s' r55 (next ((s' ++ r55), (IntKind.i64.wrap ((i : Int) + 1)), ()) w56))
          (next (s', (IntKind.i64.wrap ((i : Int) + 1)), ()) w9) := fun s' w9 hc9 hz hs' => by
      have hb29 := hb27.ch0 hc9
      refine ldS_b (o := 4) (s := cs) hb29 rfl (iteB_dec (fun g => ?_) fun g => ?_)
      · have hlt : i < l.length := by omega
        refine ldS_b (o := 4) (s := cs) hb29 rfl ?_
        refine (hrd.ch0 ((hc06.tr hc7).tr hc9)).idx rfl hlt fun ad e1 e2 => ldI_of e1 (ldI_of e2 ?_)
        have hyi := (hy l[i] (by simp)).2
        refine spelt_ok hyi fun w10 hc10 => ?_
        have hll := lnT_len hyi
        refine catP_of (by show s'.size + (lnT l[i]).toArray.size ≤ _; simp only [List.size_toArray]; omega) ?_
        rw [wrap_i64 (by omega)]
        refine hnext _ _ ⟨i + 1, by simp, by omega, (hc7.tr hc9).tr hc10, ?_⟩ (by simp; omega)
        dsimp only
        rw [app_list, hs', hs, bodyT_succ]
        simp [itT, List.getElem?_eq_getElem hlt, lnO]
      · have hie : i = l.length := by omega
        rw [wrap_i64 (by omega)]
        refine hnext _ _ ⟨i + 1, by simp, by omega, hc7.tr hc9, ?_⟩ (by simp; omega)
        dsimp only
        rw [hs', hs, bodyT_succ]
        have : l[i]? = none := List.getElem?_eq_none (by omega)
        simp [itT, this, lnO]
    refine iteB_dec (fun g => ?_) fun g => ?_
    · refine catP_of (by simp only [mk_size, List.size_toArray, List.length_cons, List.length_nil]; omega) ?_
      have hi64 : Dig.I64 (i : Int) := by unfold Dig.I64; omega
      have hdi := Dg_size hi64
      refine refDigits_ok hi64 fun w9 hc9 => ?_
      rw [show (ByteArray.mk (itoa (i : Int)).toArray) = Dg i from rfl]
      refine catP_of (by simp only [ByteArray.size_append, mk_size, List.size_toArray, List.length_cons, List.length_nil]; omega) ?_
      refine catP_of (by simp only [ByteArray.size_append, mk_size, List.size_toArray, List.length_cons, List.length_nil]; omega) ?_
      refine rest _ w9 (hc8.tr hc9) (by simp only [ByteArray.size_append, mk_size, List.size_toArray, List.length_cons, List.length_nil]; omega) ?_
      rw [lbT, if_neg g]
      simp [ByteArray.data_append, Array.toList_append, Dg_list]
    · refine rest s w8 hc8 (by omega) ?_
      rw [lbT, if_pos (by simpa using g)]
      simp
  · have hie : i = l.length + 1 := by omega
    refine catP_of (by simp only [mk_size, List.size_toArray, List.length_cons, List.length_nil]; omega) ?_
    have e : s ++ ByteArray.mk #[101, 110, 100, 10] = ⟨(oneT ⟨nm, ⟨a, b, c, d, l⟩⟩).toArray⟩ := by
      refine of_list ?_
      rw [app_list, hs, hie]
      simp [oneT]
    rw [e]
    exact hK w7 (hc06.tr hc7)
theorem rlist_ok {s : Slc} {ps : List Pc} {w : World} {K : ByteArray → Int → World → Prop} (hs : RdL w s ps) (hI : ∀ x ∈ ps, I64P x) (hb : bulkN ps ≤ 100000)
    (hK : ∀ w', Ch [] w w' → K ⟨(listT ps).1.toArray⟩ (listT ps).2 w') : c_preluderef04_List s w K := by
  refine sim_preluderef04_List ?_
  unfold sh_preluderef04_List
  have ls := hs.len
  unfold listT at hK
  refine refCheck_ok hs fun w1 hc1 => ?_
  refine iteB_ne (fun h => ?_) fun h => ?_
  · rw [if_pos h] at hK
    exact hK w1 hc1
  rw [if_neg (fun hh => hh h)] at hK
  have few : ∀ x ∈ ps, x.p.l.length ≤ 8800000000000 := fun x hx => by
    obtain ⟨i, hi⟩ := List.getElem?_of_mem hx
    obtain ⟨ad, cs, _, hp⟩ := hs.at_ i x hi
    exact hp.few
  have hlen := txtT_len (ps := ps) fun x hx => ⟨hI x hx, few x hx⟩
  have hpl := bulkN_len ps
  refine loopP_inv (fun st w2 => ∃ i : Nat, st.2.1 = (i : Int) ∧ i ≤ ps.length ∧ Ch [] w w2 ∧ st.1.data.toList = txtT (ps.take i)) (fun st _ => ps.length - st.2.1.toNat) ⟨0, rfl, Nat.zero_le _, hc1, by simp [txtT]⟩ ?_
  rintro ⟨t, i0, u⟩ w2 next ⟨i, rfl, hi, hc2, ht⟩ hnext
  dsimp only at ht ⊢
  refine iteB_dec (fun g => ?_) fun g => ?_
  · have hlt : i < ps.length := by omega
    have hmi := List.getElem_mem hlt
    have hbt := bulkN_take hlt
    have hbm := bulkN_mono ps (i + 1)
    have htl := txtT_len (ps := ps.take i) fun x hx => ⟨hI x (List.mem_of_mem_take hx), few x (List.mem_of_mem_take hx)⟩
    refine (hs.ch0 hc2).idx rfl hlt fun ad cs hp => ?_
    refine ldStr_of hp.c0 (ldI_of hp.c1 (ldI_of hp.c2 (ldI_of hp.c3 (ldI_of hp.c4 (ldS_of (s := cs) hp.c5 ?_)))))
    refine rone_ok hp.rd (hI _ hmi) hp.few (by omega) fun w3 hc3 => ?_
    have ho := oneT_len (hI _ hmi) hp.few
    refine catP_of (by show t.size + (oneT ps[i]).toArray.size ≤ _; rw [size_list t, ht]; simp only [List.size_toArray]; omega) ?_
    have lst := hs.cap
    rw [wrap_i64 (by omega)]
    refine hnext _ _ ⟨i + 1, by simp, hlt, hc2.tr hc3, ?_⟩ (by simp; omega)
    dsimp only
    rw [app_list, ht, txtT_take hlt]
  · have hie : i = ps.length := by omega
    rw [hie, List.take_length] at ht
    have e : t = ⟨(txtT ps).toArray⟩ := of_list ht
    have hz : t.size = (txtT ps).length := by rw [size_list, ht]
    refine iteB_dec (fun g' => ?_) fun g' => ?_
    · rw [if_pos (by omega)] at hK
      exact hK w2 hc2
    · rw [if_neg (by omega)] at hK
      rw [e]
      exact hK w2 hc2
end Go.Proofs.YthgkehldimldgaaDoor
