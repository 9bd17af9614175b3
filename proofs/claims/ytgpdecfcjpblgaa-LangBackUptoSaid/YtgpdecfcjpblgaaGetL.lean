/- GetL: the law LangGets. -/
import Derived.Test.YtgpdecfcjpblgaaGetM
import Derived.Test.YtgpdecfcjpblgaaGt
set_option linter.unusedVariables false
set_option linter.unusedSimpArgs false
namespace Go.Lang
open Go.Num
theorem rUpto_le {bs : List UInt8} {at_ most : Nat} {e : Int} : at_ ≤ (rUpto bs at_ e most).2.1 := by
  unfold rUpto
  split
  · exact Nat.le_refl _
  · rcases dnum 0 0 (bs.drop at_) with ⟨n, k, d⟩
    simp only
    split
    · exact Nat.le_refl _
    · split
      · exact Nat.le_refl _
      · simp only; omega
end Go.Lang
namespace Go.Proofs.Ytgpdecfcjpblgaa
open Go Go.Sh Go.Pl Go.RowKit Go.Lang Go.Num Go.Gt
theorem getN_few {bs : List UInt8} : ∀ {k at_ : Nat} {e : Int} {l : List (Int × Int)}, (getN bs k at_ e l).1.length ≤ l.length + k
  | 0, at_, e, l => Nat.le_refl _
  | k + 1, at_, e, l => by
    simp only [getN]
    split
    · have := getN_few (bs := bs) (k := k) (at_ := (getI bs at_ e).2.1) (e := (getI bs at_ e).2.2) (l := l ++ [(getI bs at_ e).1])
      rw [List.length_append, List.length_cons, List.length_nil] at this
      omega
    · simp
theorem rdT_few {bs : List UInt8} {at_ : Nat} {e : Int} : (rdT bs at_ e).1.l.length ≤ 256 := by
  have key : ∀ (p : Nat × Nat × Int) (q : Nat × Nat × Int) (g : List (Int × Int) × Nat × Int) (a b c d : Int), p.1 ≤ 256 → g = getN bs p.1 p.2.1 p.2.2 [] → (if g.2.2 = 0 then (⟨a, b, c, d, g.1⟩ : Pg) else ⟨0, 0, 0, 0, []⟩).l.length ≤ 256 := fun p q g a b c d hp hg => by
    split
    · have := getN_few (bs := bs) (k := p.1) (at_ := p.2.1) (e := p.2.2) (l := [])
      rw [← hg] at this
      simp only [List.length_nil] at this
      show g.1.length ≤ 256
      omega
    · simp
  exact key _ (0, 0, 0) _ _ _ _ _ rUpto_most rfl
set_option maxRecDepth 20000 in
set_option maxHeartbeats 1000000 in
theorem law_LangGets {x : Slc} {bs : List UInt8} {w : World} (r0 : Rd w x (U8 bs)) (n0 : x.a = none → x.l = 0 ∧ x.c = 0) (z0 : x.c ≤ reachBytes) :
    c_preludelaw03_LangGets x w fun r w' => r = true ∧ Chg Nil w w' := by
  refine sim_preludelaw03_LangGets ?_
  unfold sh_preludelaw03_LangGets
  have lx := r0.len
  have cx := r0.cap
  simp only [U8_length] at lx
  have hre : reachBytes = 140737488351232 := rfl
  refine read_ok r0 (by omega) fun br sr w1 hr1 (hc1 : Ch [] w w1) hbr hsr hsrl => ?_
  have hbl := hr1.blk.lt
  refine get_ok hr1 (fun _ => hsrl) fun sl w2 hr2 ho2 hc2 hg2 => ?_
  have hc02 : Ch [] w w2 := hc1.trN hc2 hbr
  have few := rdT_few (bs := bs) (at_ := 0) (e := 0)
  generalize hT : rdT bs 0 0 = T at *
  obtain ⟨pg, at1, e1⟩ := T
  dsimp only at hr2 ho2 few ⊢
  refine newPr fun k3 w3 hc3 hb3 hk3 hs3 => ?_
  refine newB fun k4 w4 hc4 hb4 hk4 hs4 => ?_
  have hc34 := hc3.tr hc4
  replace hc02 := hc02.tr hc34
  have hx4 : Rd w4 x (U8 bs) := r0.ch0 hc02
  have hm4 : Mr w4 k4 x bs 0 0 := ⟨by simpa using hb4, hx4, fun hne he => by
    have := r0.lt (by simpa [U8] using hne) _ he
    have := hc02.size
    have := hc1.size
    have := hc2.size
    have := hc3.size
    omega, Nat.zero_le _, by omega⟩
  have hslt := ho2.ltS
  have q3 : k3 < k4 := by have := hb3.below; omega
  have hsrl2 : ∀ k, blkOf sr = some k → k < w2.heap.size := fun k hk => Nat.lt_of_lt_of_le (hsrl k hk) hc2.size
  have hbr2 : br < w2.heap.size := Nat.lt_of_lt_of_le hbl hc2.size
  replace hr2 := hr2.ch0 hc34
  replace ho2 := ho2.ch0 hc34
  replace hb3 := hb3.ch0 hc4
  have z0 := (hc1.trN hc2 hbr).size
  have z3 := hc3.size
  clear hc1 hc2 hc3 hc4 hc34 hb4 hr1 hs3 hs4
  refine refRead_ok hm4 (fun hne k hk => hx4.lt (by simpa [U8] using hne) k hk) fun sm w5 hm5 ho5 hc5 hg5 => ?_
  rw [hT] at hm5 ho5 ⊢
  dsimp only at hm5 ho5 ⊢
  replace hr2 := hr2.ch hc5 (nin1 (by omega)) fun _ k hk => nin1 (by have := hsrl2 k hk; omega)
  replace ho2 := ho2.ch hc5 fun k hk => nin1 (by have := hslt k hk; omega)
  replace hb3 := hb3.ch hc5 (nin1 (by omega))
  have hc05 : Ch [] w w5 := hc02.trN hc5 (by omega)
  clear hc02 hx4 hm4 hc5
  refine newPr fun k6 w6 hc6 hb6 hk6 hs6 => ?_
  have dn : Ch [] w6 w6.drew := Ch.drew _
  replace hc6 := hc6.tr dn
  replace hb6 := hb6.ch0 dn
  replace hr2 := hr2.ch0 hc6
  replace ho2 := ho2.ch0 hc6
  replace ho5 := ho5.ch0 hc6
  replace hb3 := hb3.ch0 hc6
  replace hm5 := hm5.ch0 hc6
  replace hc05 := hc05.tr hc6
  clear hc6 dn hs6
  generalize w6.drew = w7 at *
  rw [nnP_some]
  refine ldI_of hm5.c2 (rerr_ok hr2 ⟨hm5.c2, iteB_neg (by simp) ?_⟩)
  refine ldPr (s := sl) hb3 (ldPr (s := sm) hb6 ?_)
  refine sameProgram_ok ho2.rdC ho5.rdC (by omega) fun w8 (hc8 : Ch [] w7 w8) => iteB_neg (by simp) ?_
  replace hr2 := hr2.ch0 hc8
  replace hm5 := hm5.ch0 hc8
  replace hc05 := hc05.tr hc8
  rw [nnP_some]
  refine ldI_of hm5.c2 (iteB_intro (fun h0 => ?_) (fun h0 => ?_))
  · have hcd := hc05.tr (Ch.drew w8)
    have hrd := hr2.ch0 (Ch.drew w8)
    have hmd := hm5.ch0 (Ch.drew w8)
    rw [nnP_some]
    refine ldI_of hmd.c1 (rat_ok hrd ⟨hmd.c1, iteB_pos (by simp) ?_⟩)
    rw [nnP_some]
    refine ldI_of hmd.c1 (rleft_ok hrd fun w9 hd9 => ?_)
    have hc9 : Ch [] w8.drew w9 := hd9.chg Nil
    have hle := hrd.le
    refine ⟨(hmd.ch0 hc9).c1, ?_, (hcd.tr hc9 : Ch [] w w9)⟩
    rw [wrap_i64 (by omega)]
    simp; omega
  · have hne : e1 ≠ 0 := by simpa using h0
    refine get_ok hr2 (fun _ k hk => by have := hsrl2 k hk; have := hr2.blk.lt; have := hm5.blk.lt; omega) fun sl2 w9 hr9 ho9 hc9 hg9 => ?_
    rw [rdT_bad hne] at hr9 ho9 ⊢
    dsimp only at hr9 ho9 ⊢
    replace hm5 := Mr.ch hm5 hc9 (nin1 (by omega)) fun hb k hk => nin1 (by
      intro he; subst he
      have := r0.lt (by simpa [U8] using hb) _ hk
      omega)
    replace hc05 := hc05.trN hc9 (by omega)
    refine newPr fun k10 w10 hc10 hb10 hk10 hs10 => ?_
    have dn : Ch [] w10 w10.drew := Ch.drew _
    replace hc10 := hc10.tr dn
    refine ldPr (s := sl2) (hb10.ch0 dn) ?_
    refine sameProgram_ok (ho9.ch0 hc10).rdC (RdC.nil rfl) (by simp) fun w11 (hc11 : Ch [] w10.drew w11) => iteB_pos rfl ?_
    replace hc11 := hc10.tr hc11
    rw [nnP_some]
    refine ldI_of (hm5.ch0 hc11).c2 (rerr_ok (hr9.ch0 hc11) ⟨(hm5.ch0 hc11).c2, by simp, (hc05.tr hc11 : Ch [] w w11)⟩)
end Go.Proofs.Ytgpdecfcjpblgaa
