/- Long: the longest way: lang.Longest, the document's Longest. -/
import Derived.Test.YtlnhecbgjjglfaaGreatRefE
set_option linter.unusedVariables false
set_option linter.unusedSimpArgs false
namespace Go.Lang
theorem depths_ok0 {a b c d : Int} {l : List Ins} (h : (depths a b c d l).2 = 0) : okP a b c d l.length = true ∧ chk a b c d l.length l 0 = 0 := by
  unfold depths at h
  split at h
  · simp at h
  · rename_i h1
    split at h
    · rename_i h2; exact absurd h h2
    · rename_i h2
      exact ⟨by simpa using h1, by omega⟩
theorem most1_cons (e : List Int) (j : Int) (r : List Int) (m : Int) : most1 e (j :: r) m = most1 e r (max m (e[j.toNat]?.getD 0)) := rfl
theorem walkL_succ {c : List Ins} {k : Nat} {e : List Int} (hk : k < c.length) : walkL c (k + 1) e = walkL c k (e.set k (most1 e (wy c[k] k) 0 + 1)) := by
  simp only [walkL]
  rw [List.getElem?_eq_getElem hk]
end Go.Lang
namespace Go.Proofs.YtlnhecbgjjglfaaGreat
open Go Go.Sh Go.Pl Go.RowKit Go.Lang Go.Names
theorem set_get_ne {l : List Int} {i j : Nat} {v : Int} (h : i ≠ j) : (l.set i v)[j]? = l[j]? := List.getElem?_set_ne h
set_option maxRecDepth 20000 in
set_option maxHeartbeats 1000000 in
theorem longest_ok {a b c d : Int} {s : Slc} {is : List (Int × Int)} {w : World} {K : Int → Int → World → Prop} (hs : RdC w s is) (hl : is.length ≤ 8800000000000)
    (hK : ∀ w', Ch [] w w' → K (longest a b c d is).1 (longest a b c d is).2 w') : c_lang_Longest a b c d s w K := by
  refine sim_lang_Longest ?_
  unfold sh_lang_Longest
  have ls := hs.len
  refine newB fun k1 w1 hc1 hb1 hk1 hs1 => ?_
  refine ldPr (s := s) hb1 ?_
  refine verify_ok (hs.ch0 hc1) hl fun w2 hc2 => ?_
  replace hb1 := hb1.ch0 hc2
  replace hc2 := hc1.tr hc2
  unfold longest at hK
  refine iteB_intro (fun h => ?_) (fun h => ?_)
  · rw [if_pos (by simpa using h)] at hK
    exact hK w2 hc2
  have h0 : (depths a b c d is).2 = 0 := by simpa using h
  rw [if_neg (by simp [h0])] at hK
  obtain ⟨hok, hchk⟩ := depths_ok0 h0
  have h256 := (okP_rng hok).2.2.2.2
  have hways := chk_ways hchk (by omega)
  simp only [Nat.zero_add, Int.natCast_zero, Int.zero_add] at hways
  refine ldS_b (s := s) hb1 rfl ?_
  rw [wrap_i64 (by omega), show ((s.l : Int) + 1) = ((is.length + 1 : Nat) : Int) by omega]
  have hb3 := hb1.below
  refine mkP_intro TI64 (by omega) (by omega) fun w3 (hc3 : Ch [] w2 w3) hb4 hs4 => ?_
  rw [madeI] at hb4
  replace hb1 := hb1.ch0 hc3
  have hkd := hc2.size
  replace hc3 := hc2.tr hc3
  generalize w2.heap.size = kd at *
  clear hc1 hc2 hs1 hk1 h hs4
  refine ldS_b (s := s) hb1 rfl ?_
  rw [wrap_i64 (by omega)]
  refine loopP_inv (fun st w4 => ∃ (k : Nat) (el : List Int), st.1 = (k : Int) - 1 ∧ k ≤ is.length ∧ Ch [] w w4 ∧ Blk w4 k1 #[.int .i64 a, .int .i64 b, .int .i64 c, .int .i64 d, .slice s.a s.l s.c] 50 ∧ RowI w4 kd .i64 3 el ∧ el.length = is.length + 1 ∧ (∀ x ∈ el, 0 ≤ x ∧ x ≤ (is.length : Int) - k) ∧ (∀ j, j < k → el[j]? = some 0) ∧ walkL is k el = walkL is is.length (List.replicate (is.length + 1) 0)) (fun st _ => (st.1 + 1).toNat)
    ⟨is.length, List.replicate (is.length + 1) 0, by simp [ls], Nat.le_refl _, hc3, hb1, hb4, by simp, fun x hx => by
      have := List.eq_of_mem_replicate hx
      omega, fun j hj => (show (List.replicate (is.length + 1) (0 : Int))[j]? = some 0 by rw [List.getElem?_replicate, if_pos (by omega)]), rfl⟩ ?_
  clear hb1 hb4 hc3
  rintro ⟨at0, u⟩ w4 next ⟨k, el, rfl, hk, hc4, hb1, hr4, hel, hrng, hz, hwalk⟩ hnext
  dsimp only
  refine iteB_intro (fun h => ?_) (fun h => ?_)
  · obtain ⟨p, rfl⟩ : ∃ p, k = p + 1 := ⟨k - 1, by simp at h; omega⟩
    rw [show (((p + 1 : Nat) : Int) - 1) = (p : Int) by omega]
    rw [walkL_succ (by omega)] at hwalk
    have hpl : p < is.length := by omega
    refine ldS_b (s := s) hb1 rfl ?_
    refine (hs.ch0 hc4).idx rfl hpl fun ad h1 h2 => ldI_of h1 (ldI_of h2 ?_)
    refine ways_ok (by omega) fun sw w5 hrw hc5 hgw => ?_
    have hkl := hr4.below
    have hgw' : ∀ k, blkOf sw = some k → k ≠ kd := fun k hk he => by have := hgw k hk; omega
    replace hr4 := hr4.ch0 hc5
    replace hb1 := hb1.ch0 hc5
    replace hc5 := hc4.tr hc5
    have hto := (hways p is[p] (by simp)).2
    have hwl := wy_len is[p] p
    have lw := hrw.len
    simp only [Is_length] at lw
    generalize wy is[p] p = ws at *
    have hp0 := hz p (by omega)
    have hself : el = el.set p 0 := by
      apply List.ext_getElem?
      intro j
      rw [List.getElem?_set]
      split
      · rename_i hj; subst hj; rw [hp0, if_pos (by omega)]
      · rfl
    refine loopP_inv (fun st w6 => ∃ (j : Nat) (m : Int), st.1 = (j : Int) ∧ j ≤ ws.length ∧ Ch [] w w6 ∧ Ch [some kd] w5 w6 ∧ RowI w6 kd .i64 3 (el.set p m) ∧ (0 ≤ m ∧ m ≤ (is.length : Int) - (p + 1 : Nat)) ∧ most1 el (ws.drop j) m = most1 el ws 0) (fun st _ => ws.length - st.1.toNat)
      ⟨0, 0, rfl, Nat.zero_le _, hc5, Ch.refl _ _, by rw [← hself]; exact hr4, by omega, rfl⟩ ?_
    rintro ⟨j0, u⟩ w6 next' ⟨j, m, rfl, hj, hc6, hck6, hr6, hm, hmost⟩ hnext'
    dsimp only
    have hpv : ∀ m : Int, (el.set p m)[(Int.toNat (p : Int))]? = some m := fun m => by rw [Int.toNat_natCast, List.getElem?_set_self (by omega)]
    have hdr : RowI w6.drew kd .i64 3 (el.set p m) := hr6.ch0 (Ch.drew _)
    refine iteB_intro (fun h => ?_) (fun h => ?_)
    · have hjlt : j < ws.length := by simp [lw] at h; omega
      have hrw6 : Rd w6 sw (Is .i64 ws) := hrw.ch hck6 fun k hk => nin1' (hgw' k hk)
      refine hrw6.get (v := ws[j]) (by omega) (by simp) ?_
      have ht := hto ws[j] (List.getElem_mem _)
      rw [List.drop_eq_getElem_cons hjlt, most1_cons] at hmost
      generalize ws[j] = t at *
      have htl : t.toNat < el.length := by omega
      have htv : (el.set p m)[t.toNat]? = some el[t.toNat] := by rw [set_get_ne (by omega)]; simp
      have htr := hrng el[t.toNat] (List.getElem_mem _)
      refine hdr.get (v := m) (by simp [hel]) (by omega) (hpv m) ?_
      refine hdr.get (v := el[t.toNat]) (by simp [hel]) (by omega) htv ?_
      refine hdr.set (by simp [hel]) (by omega) (by simp; omega) fun w7 hc7 hr7 hs7 => ?_
      rw [wrap_i64 (by omega)]
      refine hnext' _ _ ⟨j + 1, max m el[t.toNat], by simp, hjlt, (hc6.tr0 (Ch.drew _)).trN hc7 (by omega), (hck6.tr0 (Ch.drew _)).tr hc7, ?_, by omega, ?_⟩ (by simp; omega)
      · rw [Int.toNat_natCast, List.set_set] at hr7
        have e : (if el[t.toNat] > m then el[t.toNat] else m) = max m el[t.toNat] := by
          split <;> omega
        rw [e] at hr7; exact hr7
      · rw [List.getElem?_eq_getElem htl] at hmost
        exact hmost
    · have hje : j = ws.length := by simp [lw] at h; omega
      subst hje
      rw [List.drop_length] at hmost
      have hmost : m = most1 el ws 0 := hmost
      rw [← hmost] at hwalk
      refine hr6.get (v := m) (by simp [hel]) (by omega) (hpv m) ?_
      rw [wrap_i64 (by omega), wrap_i64 (by omega)]
      refine hr6.set (by simp [hel]) (by omega) (by simp; omega) fun w7 hc7 hr7 hs7 => ?_
      rw [Int.toNat_natCast, List.set_set] at hr7
      refine hnext _ _ ⟨p, el.set p (m + 1), rfl, by omega, hc6.trN hc7 (by omega), (hb1.ch hck6 (nin1' (by omega))).ch hc7 (nin1' (by omega)), hr7, by simpa using hel, fun x hx => ?_, fun j hj => ?_, hwalk⟩ (by simp only []; omega)
      · rcases List.mem_or_eq_of_mem_set hx with h | h
        · have := hrng x h; omega
        · omega
      · rw [set_get_ne (by omega)]; exact hz j (by omega)
  have hk0 : k = 0 := by simp at h; omega
  subst hk0
  rw [← hwalk] at hK
  have e0 : el[(Int.toNat 0)]? = some ((walkL is 0 el)[0]?.getD 0) := by
    show el[0]? = some (el[0]?.getD 0)
    rw [List.getElem?_eq_getElem (by omega)]; rfl
  exact hr4.get hel.symm (by omega) e0 (hK w4 hc4)
end Go.Proofs.YtlnhecbgjjglfaaGreat
