/- LibB: names; lang.Check, the document's Check. -/
import Derived.Test.YthgkehldimldgaaDoorLib
set_option linter.unusedVariables false
set_option linter.unusedSimpArgs false
namespace Go.Proofs.YthgkehldimldgaaDoor
open Go Go.Sh Go.Pl Go.RowKit Go.Lang Go.Names
theorem empty_eq (s : ByteArray) : ((s).toList == (ByteArray.mk #[]).toList) = decide (s.size = 0) := by
  rw [seq_eq]
  unfold seq
  rw [Bool.eq_iff_iff, decide_eq_true_eq, decide_eq_true_eq]
  show s.data.toList = [] ↔ s.data.size = 0
  rw [← Array.length_toList, List.length_eq_zero_iff]
theorem isName_ok {s : ByteArray} {w : World} {K : Bool → World → Prop} (hK : K (nameOk s) w) : c_lang_isName s w K := by
  refine sim_lang_isName ?_
  unfold sh_lang_isName
  rw [empty_eq]
  unfold nameOk at hK
  have bad : ¬ (1 ≤ s.size ∧ s.size ≤ 31) → K false w := fun h => by
    rw [decide_eq_false h] at hK; exact hK
  refine iteB_dec (fun h => bad (by omega)) (fun h => ?_)
  refine iteB_dec (fun h' => bad (by omega)) (fun h' => ?_)
  rw [decide_eq_true (show 1 ≤ s.size ∧ s.size ≤ 31 by omega), Bool.true_and] at hK
  exact nameF hK (by omega)
theorem refName_ok {s : ByteArray} {w : World} {K : Bool → World → Prop} (hK : K (nameOk s) w) : c_preluderef03_Name s w K := by
  refine sim_preluderef03_Name ?_
  unfold sh_preluderef03_Name
  unfold nameOk at hK
  have bad : ¬ (1 ≤ s.size ∧ s.size ≤ 31) → K false w := fun h => by
    rw [decide_eq_false h] at hK; exact hK
  refine iteB_dec (fun h => bad (by omega)) (fun h => ?_)
  refine iteB_dec (fun h' => bad (by omega)) (fun h' => ?_)
  rw [decide_eq_true (show 1 ≤ s.size ∧ s.size ≤ 31 by omega), Bool.true_and] at hK
  exact nameF hK (by omega)
theorem ckL_drop {pre : List ByteArray} {ps : List Pc} {i : Nat} (h : i < ps.length) : ckL pre i (ps.drop i) = if (memB ps[i].name pre || !nameOk ps[i].name) = true then ((i : Int), 35) else if (pgD ps[i].p).2 ≠ 0 then ((i : Int), (pgD ps[i].p).2) else ckL (pre ++ [ps[i].name]) (i + 1) (ps.drop (i + 1)) := by
  rw [List.drop_eq_getElem_cons h]
  rfl
theorem names_succ {ps : List Pc} {i : Nat} (h : i < ps.length) : (ps.take (i + 1)).map (·.name) = (ps.take i).map (·.name) ++ [ps[i].name] := by
  rw [List.take_succ_eq_append_getElem h, List.map_append]; rfl
theorem mapT : Tryd.prog.underlying 52 = some (.map 9 3) := by kernel_rfl
theorem strT : Tryd.prog.underlying 9 = some .string := by kernel_rfl
theorem intZ : (Tryd.prog.info? 3).map (·.zero) = some (some (.int .i64 0)) := by kernel_rfl
set_option maxHeartbeats 1000000 in
theorem check_ok {s : Slc} {ps : List Pc} {w : World} {K : Int → Int → World → Prop} (hs : RdL w s ps) (hK : ∀ w', Ch [] w w' → K (checkT ps).1 (checkT ps).2 w') : c_lang_Check s w K := by
  refine sim_lang_Check ?_
  unfold sh_lang_Check
  have ls := hs.len
  unfold checkT at hK
  refine iteB_dec (fun h => ?_) (fun h => ?_)
  · rw [if_pos (by omega)] at hK
    exact hK w (Ch.refl _ _)
  have h64 : ¬ ps.length > 64 := by omega
  rw [if_neg h64] at hK
  refine newMap fun r w1 hm1 hc1 hr => ?_
  refine loopP_inv (fun st w2 => ∃ i : Nat, st.1 = (i : Int) ∧ i ≤ ps.length ∧ Ch [] w w2 ∧ MapS w2 r ((ps.take i).map (·.name)) ∧ ckL ((ps.take i).map (·.name)) i (ps.drop i) = ckL [] 0 ps) (fun st _ => ps.length - st.1.toNat) ⟨0, rfl, Nat.zero_le _, hc1, by simpa using hm1, by simp⟩ ?_
  rintro ⟨i0, u⟩ w2 next ⟨i, rfl, hi, hc2, hm2, hck⟩ hnext
  dsimp only
  refine iteB_dec (fun h => ?_) (fun h => ?_)
  · have hlt : i < ps.length := by omega
    rw [ckL_drop hlt] at hck
    obtain ⟨ad, cs, hp0, hidx⟩ := hs.at' hlt
    have hp := hp0.ch0 hc2
    refine hidx _ _ rfl ?_
    refine ldStr_of hp.c0 (ldI_of hp.c1 (ldI_of hp.c2 (ldI_of hp.c3 (ldI_of hp.c4 (ldS_of hp.c5 ?_)))))
    refine newPc fun k3 w3 hc3 hb3 hk3 => ?_
    have hrl := hm2.lt
    replace hp := hp.ch0 hc3
    replace hm2 := hm2.ch0 hc3
    replace hc3 := hc2.tr hc3
    refine ldStr_b (o := 0) hb3 rfl ?_
    obtain ⟨v, ok, hok, hrun⟩ := lookS_ok (s := ps[i].name) mapT strT intZ hm2
    refine ⟨v, ok, w3, hrun, ?_⟩
    have bad : (memB ps[i].name ((ps.take i).map (·.name)) || !nameOk ps[i].name) = true → ∀ w', Ch [] w w' → K (i : Int) 35 w' := fun hb w' hc' => by
      rw [if_pos hb] at hck
      rw [← hck] at hK
      exact hK w' hc'
    refine iteB_intro (fun hy => bad (by rw [(memB_iff _ _).2 (hok.1 hy)]; rfl) w3 hc3) (fun hn => ?_)
    have hnm : ps[i].name ∉ (ps.take i).map (·.name) := fun hm => by
      have := hok.2 hm
      rw [hn] at this; cases this
    refine ldStr_b (o := 0) hb3 rfl (isName_ok ?_)
    refine iteB_intro (fun hy => bad (by rw [hy]; simp) w3 hc3) (fun hno => ?_)
    have hname : nameOk ps[i].name = true := by simpa using hno
    have hmf : memB ps[i].name ((ps.take i).map (·.name)) = false := by
      cases hmb : memB ps[i].name ((ps.take i).map (·.name)) with
      | false => rfl
      | true => exact absurd ((memB_iff _ _).1 hmb) hnm
    rw [if_neg (by rw [hmf, hname]; simp)] at hck
    refine ldStr_b (o := 0) hb3 rfl ?_
    refine upd_ok mapT strT hm2 hnm fun w4 hm4 hc4 hs4 => ?_
    have hrk : k3 ≠ r := by omega
    have hb4 := hb3.ch hc4 (nin1' hrk)
    have hc04 : Ch [] w w4 := hc3.trN hc4 hr
    rw [add_mk]
    refine ldI_b (o := 1) hb4 rfl ?_
    rw [add_mk, add_mk, add_mk, add_mk]
    refine ldI_b (o := 2) hb4 rfl (ldI_b (o := 3) hb4 rfl (ldI_b (o := 4) hb4 rfl (ldS_b (o := 5) (s := cs) hb4 rfl ?_)))
    have hrd := (hp0.ch0 hc04).rd
    refine verify_ok hrd hp.few fun w5 hc5 => ?_
    have hc05 := hc04.tr hc5
    refine iteB_ne (fun hne => ?_) (fun h0 => ?_)
    · rw [if_pos (show (pgD ps[i].p).2 ≠ 0 from hne)] at hck
      rw [← hck] at hK
      exact hK w5 hc05
    · rw [if_neg (show ¬ (pgD ps[i].p).2 ≠ 0 from fun hne => hne h0)] at hck
      rw [wrap_i64 (by omega)]
      refine hnext _ _ ⟨i + 1, by simp, hlt, hc05, ?_, ?_⟩ (by simp; omega)
      · rw [names_succ hlt]; exact hm4.ch0 hc5
      · rw [names_succ hlt]; exact hck
  · have hie : i = ps.length := by omega
    subst hie
    rw [List.drop_length] at hck
    rw [← hck] at hK
    exact hK w2 hc2
set_option maxHeartbeats 1000000 in
theorem refCheck_ok {s : Slc} {ps : List Pc} {w : World} {K : Int → Int → World → Prop} (hs : RdL w s ps) (hK : ∀ w', Ch [] w w' → K (checkT ps).1 (checkT ps).2 w') : c_preluderef03_Check s w K := by
  refine sim_preluderef03_Check ?_
  unfold sh_preluderef03_Check
  have ls := hs.len
  unfold checkT at hK
  refine iteB_dec (fun h => ?_) (fun h => ?_)
  · rw [if_pos (by omega)] at hK
    exact hK w (Ch.refl _ _)
  have h64 : ¬ ps.length > 64 := by omega
  rw [if_neg h64] at hK
  refine loopP_inv (fun st w2 => ∃ i : Nat, st.1 = (i : Int) ∧ i ≤ ps.length ∧ Ch [] w w2 ∧ ckL ((ps.take i).map (·.name)) i (ps.drop i) = ckL [] 0 ps) (fun st _ => ps.length - st.1.toNat) ⟨0, rfl, Nat.zero_le _, Ch.refl _ _, by simp⟩ ?_
  rintro ⟨i0, u⟩ w2 next ⟨i, rfl, hi, hc2, hck⟩ hnext
  dsimp only
  refine iteB_dec (fun h => ?_) (fun h => ?_)
  · have hlt : i < ps.length := by omega
    rw [ckL_drop hlt] at hck
    have bad : (memB ps[i].name ((ps.take i).map (·.name)) || !nameOk ps[i].name) = true → ∀ w', Ch [] w w' → K (i : Int) 35 w' := fun hb w' hc' => by
      rw [if_pos hb] at hck
      rw [← hck] at hK
      exact hK w' hc'
    refine (hs.ch0 hc2).idx rfl hlt fun ad cs hp => ldStr_of hp.c0 (refName_ok ?_)
    refine iteB_intro (fun hy => bad (by rw [hy]; simp) w2 hc2) (fun hno => ?_)
    have hname : nameOk ps[i].name = true := by simpa using hno
    refine loopP_inv (fun st w3 => ∃ j : Nat, st.1 = (j : Int) ∧ j ≤ i ∧ Ch [] w w3 ∧ ∀ q, (h : q < ps.length) → q < j → ps[q].name ≠ ps[i].name) (fun st _ => i - st.1.toNat) ⟨0, rfl, Nat.zero_le _, hc2, fun q h hq => by omega⟩ ?_
    rintro ⟨j0, u⟩ w3 next' ⟨j, rfl, hj, hc3, hall⟩ hnext'
    dsimp only
    have hcd := hc3.tr (Ch.drew w3)
    refine iteB_dec (fun hji => ?_) (fun hji => ?_)
    · have hjl : j < ps.length := by omega
      refine (hs.ch0 hcd).idx rfl hjl fun ad1 cs1 hp1 => ldStr_of hp1.c0 ?_
      refine (hs.ch0 hcd).idx rfl hlt fun ad2 cs2 hp2 => ldStr_of hp2.c0 ?_
      rw [seq_eq]
      refine iteB_intro (fun hy => bad ?_ _ hcd) (fun hn => ?_)
      · have he := (seq_iff _ _).1 hy
        have : ps[i].name ∈ (ps.take i).map (·.name) := by
          rw [← he]
          refine List.mem_map.2 ⟨ps[j], ?_, rfl⟩
          rw [List.mem_iff_getElem]
          exact ⟨j, by simp; omega, by simp⟩
        rw [(memB_iff _ _).2 this]; rfl
      · rw [wrap_i64 (by omega)]
        refine hnext' _ _ ⟨j + 1, by simp, by omega, hcd, fun q hq hqj => ?_⟩ (by simp; omega)
        rcases Nat.lt_or_ge q j with h1 | h1
        · exact hall q hq h1
        · have : q = j := by omega
          subst this
          intro he
          rw [(seq_iff _ _).2 he] at hn; cases hn
    · have hje : j = i := by omega
      subst hje
      have hnm : ps[j].name ∉ (ps.take j).map (·.name) := fun hm => by
        obtain ⟨x, hx, he⟩ := List.mem_map.1 hm
        obtain ⟨q, hq, rfl⟩ := List.mem_iff_getElem.1 hx
        simp at hq
        rw [List.getElem_take] at he
        exact hall q (by omega) (by omega) he
      have hmf : memB ps[j].name ((ps.take j).map (·.name)) = false := by
        cases hmb : memB ps[j].name ((ps.take j).map (·.name)) with
        | false => rfl
        | true => exact absurd ((memB_iff _ _).1 hmb) hnm
      rw [if_neg (by rw [hmf, hname]; simp)] at hck
      refine (hs.ch0 hc3).idx rfl hlt fun ad cs hp => ldPc hp ?_
      refine refVerify_ok hp.rd hp.few fun w5 hc5 => ?_
      have hc05 := hc3.tr hc5
      refine iteB_ne (fun hne => ?_) (fun h0 => ?_)
      · rw [if_pos (show (pgD ps[j].p).2 ≠ 0 from hne)] at hck
        rw [← hck] at hK
        exact hK w5 hc05
      · rw [if_neg (show ¬ (pgD ps[j].p).2 ≠ 0 from fun hne => hne h0)] at hck
        rw [wrap_i64 (by omega)]
        refine hnext _ _ ⟨j + 1, by simp, hlt, hc05, ?_⟩ (by simp; omega)
        rw [names_succ hlt]; exact hck
  · have hie : i = ps.length := by omega
    subst hie
    rw [List.drop_length] at hck
    rw [← hck] at hK
    exact hK w2 hc2
end Go.Proofs.YthgkehldimldgaaDoor
