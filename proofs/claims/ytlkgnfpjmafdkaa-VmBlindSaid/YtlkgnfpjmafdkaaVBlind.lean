/- VBlind: the law VmBlind. -/
import Derived.Test.YtlkgnfpjmafdkaaVmC
set_option linter.unusedVariables false
set_option linter.unusedSimpArgs false
namespace Go.Vm
open Go Go.Lang
/-- Two calls that a machine tells not apart: what it looks at in the reads is the same. -/
structure Eqv (E F : En) : Prop where
  a : F.a = E.a
  b : F.b = E.b
  c : F.c = E.c
  d : F.d = E.d
  is : F.is = E.is
  args : F.args = E.args
  len : F.rs.length = E.rs.length
  see : (∃ x ∈ E.is, x.1 = 7 ∨ x.1 = 8 ∨ x.1 = 9) → ∀ i : Nat, (F.rs[i]?.map fun c => (c.1, if c.1 then c.2 else 0)) = (E.rs[i]?.map fun c => (c.1, if c.1 then c.2 else 0))
theorem Eqv.sound {E F : En} (h : Eqv E F) : newE F = newE E := by
  unfold newE
  rw [h.a, h.b, h.c, h.d, h.is, h.args, h.len]
theorem Eqv.rv {E F : En} (h : Eqv E F) {x : Ins} (hx : x ∈ E.is) (h7 : x.1 = 7 ∨ x.1 = 8 ∨ x.1 = 9) (i : Int) : Vm.rv F i = Vm.rv E i ∧ F.rs[i.toNat]?.map (·.1) = E.rs[i.toNat]?.map (·.1) := by
  have := h.see ⟨x, hx, h7⟩ i.toNat
  unfold Vm.rv
  cases hf : F.rs[i.toNat]? with
  | none =>
    rw [hf] at this
    cases he : E.rs[i.toNat]? with
    | none => exact ⟨rfl, rfl⟩
    | some c => rw [he] at this; cases this
  | some c =>
    rw [hf] at this
    cases he : E.rs[i.toNat]? with
    | none => rw [he] at this; cases this
    | some c' =>
      rw [he] at this
      simp only [Option.map_some, Option.some.injEq, Prod.mk.injEq] at this
      exact ⟨this.2, by simp [this.1]⟩
theorem Eqv.ex {E F : En} (h : Eqv E F) {x : Ins} (hx : x ∈ E.is) (m : Mc) : ex F m x = ex E m x := by
  unfold Vm.ex
  have hz : ∀ e, zs e = zs e := fun _ => rfl
  rw [h.args, h.len]
  by_cases h7 : x.1 = 7 ∨ x.1 = 8 ∨ x.1 = 9
  · rw [(h.rv hx h7 x.2).1, (h.rv hx h7 (m.st.headD 0)).1]
    have hm := (h.rv hx h7 x.2).2
    generalize F.rs[x.2.toNat]? = f at *
    generalize E.rs[x.2.toNat]? = e at *
    cases f with
    | none => cases e with
      | none => rfl
      | some c => cases hm
    | some c' => cases e with
      | none => cases hm
      | some c =>
        simp only [Option.map_some, Option.some.injEq] at hm
        dsimp only
        rw [hm]
  · have e7 : x.1 ≠ 7 := fun e => h7 (.inl e)
    have e8 : x.1 ≠ 8 := fun e => h7 (.inr (.inl e))
    have e9 : x.1 ≠ 9 := fun e => h7 (.inr (.inr e))
    rw [if_neg e7, if_neg e8, if_neg e9, if_neg e7, if_neg e8, if_neg e9]
theorem Eqv.step {E F : En} (h : Eqv E F) (m : Mc) : Vm.step F m = Vm.step E m := by
  unfold Vm.step
  rw [h.is]
  cases hx : E.is[m.pc]? with
  | none => rfl
  | some x =>
    have hm : x ∈ E.is := List.mem_of_getElem? hx
    dsimp only
    unfold act
    rw [h.ex hm]
    unfold goto' Vm.fault
    rw [h.is, h.c, h.d]
theorem Eqv.fin {E F : En} (h : Eqv E F) : ∀ (k : Nat) (m : Mc), fin F k m = fin E k m
  | 0, m => rfl
  | k + 1, m => by
    simp only [Vm.fin]
    rw [h.step, Eqv.fin h k]
theorem Eqv.run {E F : En} (h : Eqv E F) : runE F = runE E := by
  unfold runE endOf
  have e : mc0 F = mc0 E := by unfold mc0; rw [h.c, h.d, h.is]
  rw [h.sound, h.fin, e]
end Go.Vm
namespace Go.Pl
open Go Go.Sh Go.RowKit Go.Vm
theorem flatR_app (a b : List Cel) : flatR (a ++ b) = flatR a ++ flatR b := by simp [flatR]
theorem flatR_set : ∀ (cs : List Cel) (i : Nat) (p : Cel), ((flatR cs).set (i * 2) (.bool p.1)).set (i * 2 + 1) (.int .i64 p.2) = flatR (cs.set i p)
  | [], i, p => rfl
  | y :: cs, 0, p => rfl
  | y :: cs, i + 1, p => by
    have := flatR_set cs i p
    show ((Value.bool y.1 :: .int .i64 y.2 :: flatR cs).set ((i + 1) * 2) _).set ((i + 1) * 2 + 1) _ = Value.bool y.1 :: .int .i64 y.2 :: flatR (cs.set i p)
    rw [show (i + 1) * 2 = i * 2 + 1 + 1 by omega]
    simp only [List.set_cons_succ]
    rw [this]
theorem RdQ.cel {w : World} {s : Slc} {cs : List Cel} (h : RdQ w 2 s (flatR cs)) {i : Nat} {i' : Int} (hi' : i' = (i : Int)) (hi : i < cs.length) {K : Addr → Prop} (hK : ∀ ad, w.cell? ad = some (.bool cs[i].1) → w.cell? (ad.add 1) = some (.int .i64 cs[i].2) → K ad) : idxP s.a s.l i' 2 K := by
  subst hi'
  obtain ⟨e1, e2⟩ := flatR_at cs i cs[i] (by simp)
  obtain ⟨ad, ha, c1⟩ := h.at_ _ _ e1
  obtain ⟨ad', ha', c2⟩ := h.at_ _ _ e2
  rw [ha] at ha'; cases ha'
  have hl := h.len
  rw [flatR_length] at hl
  exact ⟨by omega, by omega, ad, ha, by rw [Int.toNat_natCast]; exact hK _ c1 (by rw [Deep.add_add]; exact c2)⟩
end Go.Pl
namespace Go.Proofs.Ytlkgnfpjmafdkaa
open Go Go.Sh Go.Pl Go.RowKit Go.Lang Go.Vm Go.Gt
/-- The same reads, but for what stands at those that have nothing. -/
def othR (vs : List Int) (i : Nat) (x : Cel) : Cel := if x.1 then x else if 0 < vs.length then (x.1, vs[i % vs.length]?.getD 0) else x
def oth (vs : List Int) (rs : List Cel) : List Cel := (List.range rs.length).map fun i => othR vs i (rs[i]?.getD (false, 0))
theorem oth_at {vs : List Int} {rs : List Cel} {i : Nat} (h : i < rs.length) : (oth vs rs)[i]? = some (othR vs i rs[i]) := by
  unfold oth
  rw [List.getElem?_map, List.getElem?_range h]
  simp [h]
theorem oth_len (vs : List Int) (rs : List Cel) : (oth vs rs).length = rs.length := by simp [oth]
theorem oth_take {vs : List Int} {rs : List Cel} {i : Nat} (h : i < rs.length) : (oth vs rs).take (i + 1) = (oth vs rs).take i ++ [othR vs i rs[i]] := by
  have hl : i < (oth vs rs).length := by rw [oth_len]; exact h
  rw [List.take_succ_eq_append_getElem hl]
  congr 2
  have := oth_at (vs := vs) h
  rw [List.getElem?_eq_getElem hl] at this
  simpa using this
theorem othE {E : En} {vs : List Int} : Eqv E { E with rs := oth vs E.rs } := ⟨rfl, rfl, rfl, rfl, rfl, rfl, oth_len _ _, fun _ i => by
  show ((oth vs E.rs)[i]?.map _) = _
  rcases Nat.lt_or_ge i E.rs.length with h | h
  · rw [oth_at h, List.getElem?_eq_getElem h]
    generalize E.rs[i] = x
    unfold othR
    simp only [Option.map_some]
    cases hx : x.1 with
    | true => simp [hx]
    | false =>
      simp only [Bool.false_eq_true, if_false]
      split <;> simp [hx]
  · rw [List.getElem?_eq_none h, List.getElem?_eq_none (by rw [oth_len]; exact h)]⟩
/-- .. and all of them turned over. -/
def trn (x : Cel) : Cel := (!x.1, IntKind.i64.wrap (x.2 - 1))
def turn (rs : List Cel) : List Cel := rs.map trn
def mix (rs : List Cel) (i : Nat) : List Cel := rs.mapIdx fun j x => if j < i then trn x else x
theorem mix_len (rs : List Cel) (i : Nat) : (mix rs i).length = rs.length := by simp [mix]
theorem mix_at (rs : List Cel) (i j : Nat) : (mix rs i)[j]? = rs[j]?.map fun x => if j < i then trn x else x := by simp [mix, List.getElem?_mapIdx]
theorem mix_0 (rs : List Cel) : mix rs 0 = rs := by
  apply List.ext_getElem?
  intro j
  rw [mix_at]
  cases rs[j]? <;> simp
theorem mix_n (rs : List Cel) : mix rs rs.length = turn rs := by
  apply List.ext_getElem?
  intro j
  rw [mix_at]
  unfold turn
  rw [List.getElem?_map]
  cases h : rs[j]? with
  | none => rfl
  | some x =>
    have := (List.getElem?_eq_some_iff.1 h).1
    simp [this]
theorem mix_set (rs : List Cel) {i : Nat} (h : i < rs.length) : (mix rs i).set i (trn rs[i]) = mix rs (i + 1) := by
  apply List.ext_getElem?
  intro j
  rw [List.getElem?_set, mix_at, mix_at, mix_len]
  split
  · rename_i e
    subst e
    rw [List.getElem?_eq_getElem h]
    simp
  · rename_i e
    cases rs[j]? with
    | none => rfl
    | some x =>
      simp only [Option.map_some]
      congr 1
      by_cases hj : j < i
      · rw [if_pos hj, if_pos (by omega)]
      · rw [if_neg hj, if_neg (by omega)]
theorem turnE {E : En} {rs : List Cel} (hl : rs.length = E.rs.length) (hn : ∀ x ∈ E.is, x.1 ≠ 7 ∧ x.1 ≠ 8 ∧ x.1 ≠ 9) : Eqv E { E with rs := turn rs } := ⟨rfl, rfl, rfl, rfl, rfl, rfl, by simp [turn, hl], fun ⟨x, hx, h⟩ => by have := hn x hx; omega⟩
set_option maxRecDepth 20000 in
set_option maxHeartbeats 4000000 in
theorem law_VmBlind {a b c d : Int} {s sa sr sv : Slc} {mc : Mo insG} {ma : Mo intsG} {mr : Mo celG} {mv : Mo intsG} {w : World} (w0 : (Lit.int .i64 a).wf = true) (w1 : (Lit.int .i64 b).wf = true) (w2 : (Lit.int .i64 c).wf = true) (w3 : (Lit.int .i64 d).wf = true)
    (k4 : Gt.Rep reachBytes w insG [.slice s.a s.l s.c] mc) (k5 : Gt.Rep reachBytes w intsG [.slice sa.a sa.l sa.c] ma) (k6 : Gt.Rep reachBytes w celG [.slice sr.a sr.l sr.c] mr) (k7 : Gt.Rep reachBytes w intsG [.slice sv.a sv.l sv.c] mv) :
    c_preludelaw05_VmBlind a b c d s sa sr sv w fun r w' => r = true ∧ Chg Nil w w' := by
  refine sim_preludelaw05_VmBlind ?_
  unfold sh_preludelaw05_VmBlind
  have hG := rep_call (a := a) (b := b) (c := c) (d := d) k4 k5 k6
  obtain ⟨hV, hVn, hVc⟩ := rep_ints k7
  have ea : a = (callE a b c d mc ma mr).a := rfl
  have eb : b = (callE a b c d mc ma mr).b := rfl
  have ec : c = (callE a b c d mc ma mr).c := rfl
  have ed : d = (callE a b c d mc ma mr).d := rfl
  generalize callE a b c d mc ma mr = E at *
  generalize intsOf mv = vs at *
  subst ea eb ec ed
  have hre : reachBytes = 140737488351232 := rfl
  have lR := hG.lr
  have bR := hG.br
  have lV := hV.len
  rw [Is_length] at lV
  refine newB fun k1 v1 hc1 hb1 hk1 hs1 => ?_
  refine awake_ok fun v2 hc2 => iteB_neg rfl ?_
  replace hb1 := hb1.ch0 hc2
  replace hc2 := hc1.tr hc2
  refine ldI_b (o := 0) hb1 rfl (ldI_b hb1 rfl (ldI_b hb1 rfl (ldI_b hb1 rfl (ldS_b (s := s) hb1 rfl (ldS_b (s := sa) hb1 rfl (ldS_b (s := sr) hb1 rfl ?_))))))
  refine (hG.ch0 hc2).run fun so sp v4 hE hc4 => ?_
  replace hb1 := hb1.ch0 hc4
  replace hc4 := hc2.tr hc4
  refine newB fun k5 v5 hc5 hb5 hk5 hs5 => ?_
  refine st6n hb5 fun v6 hc6 hb6 hs6 => ?_
  replace hb6 : Blk v6 k5 (efC (runE E) so sp) _ := hb6
  have hc46 : Ch [] v4 v6 := hc5.trN hc6 (by omega)
  replace hE := hE.ch0 hc46
  replace hb1 := hb1.ch0 hc46
  have hc06 := hc4.tr hc46
  clear hb5 hc5 hc6 hs5 hs6 hc2 hc1 hs1 hc46 hc4
  have hl := ef_len E
  have z06 := hc06.size
  refine loopP_inv (fun st w' => ∃ i : Nat, st.2.1 = (i : Int) ∧ i ≤ E.rs.length ∧ Own w' 58 2 st.1 (flatR ((oth vs E.rs).take i)) ∧ Ge v6.heap.size (blkOf st.1) ∧ Ch [] v6 w') (fun st _ => E.rs.length - st.2.1.toNat)
    ⟨0, rfl, Nat.zero_le _, Own.nil _ _ _, fun k hk => (by cases hk), Ch.refl _ _⟩ ?_
  rintro ⟨sx, i0, u⟩ w8 next ⟨i, rfl, hi, hox, hgx, hc8⟩ hnext
  dsimp only at hox hgx ⊢
  have hb18 := hb1.ch0 hc8
  have hc08 := hc06.tr hc8
  have lx : sx.l = i := by have := hox.len; rw [flatR_length, List.length_take, oth_len] at this; omega
  refine ldS_b (s := sr) hb18 rfl (iteB_dec (fun h => ?_) fun h => ?_)
  · have hlt : i < E.rs.length := by omega
    refine ldS_b (s := sr) hb18 rfl ?_
    refine (hG.rr.ch0 hc08).cel rfl hlt fun ad c1 c2 => ldB_of c1 (ldI_of c2 ?_)
    refine newB fun k9 w9 hc9 hb9 hk9 hs9 => ?_
    refine stB (o := 0) hb9 (by simp) fun w10 hc10 hb10 hs10 => stB hb10 (by simp) fun w11 hc11 hb11 hs11 => ?_
    replace hb11 : Blk w11 k9 #[.bool E.rs[i].1, .int .i64 E.rs[i].2] _ := hb11
    have hc811 : Ch [] w8 w11 := hc9.trN (hc10.tr hc11) (by omega)
    -- one more read is appended
    have app : ∀ (t : Bool) (n : Int) (w' : World), Ch [] w8 w' → (t, n) = othR vs i E.rs[i] → newP #[.bool t, .int .i64 n] 58 w' fun a54 w55 => apP Try.prog #[26, 26] 26 [.slice sx.a sx.l sx.c, .slice (some a54) 1 1] w55 fun s57 w56 => next (s57, (IntKind.i64.wrap ((i : Int) + 1)), ()) w56 := fun t n w' hc' he => by
      refine apB TCe (cells := #[.bool t, .int .i64 n]) rfl (by simp; exact ⟨rfl, rfl⟩) (hox.ch0 hc') (by omega) (by omega) fun s57 w57 ho57 hl57 hg57 => ?_
      rw [wrap_i64 (by omega)]
      obtain ⟨g1, g2⟩ := hg57.ch
      have hz := hc'.size
      have hz8 := hc8.size
      refine hnext _ _ ⟨i + 1, by simp, hlt, ?_, ?_, ?_⟩ (by simp; omega)
      · rw [oth_take hlt, ← he, flatR_app]
        exact ho57
      · intro k hk
        rcases g2 k hk with h | h
        · exact hgx k h
        · omega
      · refine (hc8.tr hc').trO g1 hgx
    refine ldB_b (o := 0) hb11 rfl ?_
    cases ht : E.rs[i].1 with
    | true =>
      rw [ht] at hb11
      refine iteB_neg rfl ?_
      refine ldB_b (o := 0) hb11 rfl (ldI_b hb11 rfl ?_)
      refine app _ _ w11 hc811 ?_
      unfold othR
      rw [if_pos ht, ← ht]
    | false =>
      rw [ht] at hb11
      refine iteB_pos rfl ?_
      refine iteB_dec (fun hp => ?_) (fun hp => ?_)
      · have hp' : 0 < vs.length := by omega
        refine ⟨by omega, ?_⟩
        have em : Int.tmod (i : Int) (sv.l : Int) = ((i % vs.length : Nat) : Int) := by rw [lV]; rfl
        rw [em]
        have hmod := Nat.mod_lt i hp'
        refine (hV.ch0 (hc08.tr hc811)).get (v := vs[i % vs.length]?.getD 0) (by omega) (by rw [Int.toNat_natCast, List.getElem?_eq_getElem hmod]; rfl) ?_
        refine stB hb11 (by simp) fun w12 hc12 hb12 hs12 => ?_
        replace hb12 : Blk w12 k9 #[.bool false, .int .i64 (vs[i % vs.length]?.getD 0)] _ := hb12
        refine ldB_b (o := 0) hb12 rfl (ldI_b hb12 rfl ?_)
        refine app _ _ w12 (hc811.trN hc12 (by omega)) ?_
        unfold othR
        rw [if_neg (by rw [ht]; decide), if_pos hp', ht]
      · refine ldB_b (o := 0) hb11 rfl (ldI_b hb11 rfl ?_)
        refine app _ _ w11 hc811 ?_
        unfold othR
        rw [if_neg (by rw [ht]; decide), if_neg (by omega), ← ht]
  have hie : i = E.rs.length := by omega
  subst hie
  rw [List.take_of_length_le (by rw [oth_len]; exact Nat.le_refl _)] at hox
  clear hnext h hi
  have lx' : sx.l = (oth vs E.rs).length := by rw [oth_len]; exact lx
  have G2 : ∀ {w'} (rs : List Cel), Ch [] w w' → Own w' 58 2 sx (flatR rs) → rs.length = E.rs.length → Gv w' { E with rs := rs } s sa sx := fun {w'} rs hc ho hrl => by
    have g := hG.ch0 hc
    exact ⟨g.rc, g.nc, g.ra, g.na, ho.rdQ, fun hn => ho.none0 hn, g.big, g.la, by show sx.l = rs.length; rw [hrl]; exact lx, g.ba, by show rs.length ≤ _; rw [hrl]; exact g.br⟩
  refine ldI_b (o := 0) hb18 rfl (ldI_b hb18 rfl (ldI_b hb18 rfl (ldI_b hb18 rfl (ldS_b (s := s) hb18 rfl (ldS_b (s := sa) hb18 rfl ?_)))))
  refine (G2 _ hc08 hox (oth_len _ _)).run fun so2 sp2 w9 hE2 hc9 => ?_
  rw [(othE (E := E) (vs := vs)).run, (othE (E := E) (vs := vs)).sound] at *
  refine newB fun k10 w10 hc10 hb10 hk10 hs10 => ?_
  refine st6n hb10 fun w11 hc11 hb11 hs11 => ?_
  replace hb11 : Blk w11 k10 (efC (runE E) so2 sp2) _ := hb11
  have hc911 : Ch [] w9 w11 := hc10.trN hc11 (by omega)
  have hc811 := hc9.tr hc911
  refine iteB_neg (by simp) ?_
  refine ld6 (so := so) (sp := sp) (hb6.ch0 (hc8.tr hc811)) (ld6 (so := so2) (sp := sp2) hb11 ?_)
  refine (hE.ch0 (hc8.tr hc811)).same (hE2.ch0 hc911) hl fun w12 hc12 => iteB_neg rfl ?_
  have hc812 := hc811.tr hc12
  refine iteB_ne (fun h => ⟨rfl, hc08.tr hc812⟩) fun h0 => ?_
  have hrc := hG.rc
  have ls := hrc.len
  have big := hG.big
  refine loopP_inv (fun st w' => ∃ j : Nat, st.1 = (j : Int) ∧ j ≤ E.is.length ∧ w' = w12 ∧ ∀ x ∈ E.is.take j, x.1 ≠ 7 ∧ x.1 ≠ 8 ∧ x.1 ≠ 9) (fun st _ => E.is.length - st.1.toNat) ⟨0, rfl, Nat.zero_le _, rfl, fun x hx => by simp at hx⟩ ?_
  rintro ⟨j0, u⟩ w13 next ⟨j, rfl, hj, rfl, hno⟩ hnext
  dsimp only
  have hb1e := hb18.ch0 hc812
  refine ldS_b (s := s) hb1e rfl (iteB_dec (fun h => ?_) fun h => ?_)
  · have hlt : j < E.is.length := by omega
    refine ldS_b (s := s) hb1e rfl ?_
    refine (hrc.ch0 (hc08.tr hc812)).idx rfl hlt fun ad c1 c2 => ldI_of c1 ?_
    refine iteB_eq (fun _ => ⟨rfl, hc08.tr hc812⟩) fun n7 => iteB_eq (fun _ => ⟨rfl, hc08.tr hc812⟩) fun n8 => iteB_eq (fun _ => ⟨rfl, hc08.tr hc812⟩) fun n9 => ?_
    rw [wrap_i64 (by omega)]
    refine hnext _ _ ⟨j + 1, by simp, hlt, rfl, fun x hx => ?_⟩ (by simp; omega)
    rw [List.take_succ_eq_append_getElem hlt] at hx
    rcases List.mem_append.1 hx with hx | hx
    · exact hno x hx
    · simp at hx
      subst hx
      exact ⟨n7, n8, n9⟩
  have hje : j = E.is.length := by omega
  subst hje
  rw [List.take_length] at hno
  clear hnext h
  have hz8 := hc8.size
  have hx12 := hox.ch0 hc812
  have hxlt := hox.lt
  -- all reads are turned over
  generalize hrs : oth vs E.rs = rs0 at *
  have hl0 : rs0.length = E.rs.length := by rw [← hrs, oth_len]
  have hz9 := hc9.size
  have hk10 : Dj (some k10) (blkOf sx) := fun k hk hk' => by
    cases hk
    have := hxlt _ hk'
    omega
  refine loopP_inv (fun st w' => ∃ i : Nat, st.1 = (i : Int) ∧ i ≤ rs0.length ∧ Own w' 58 2 sx (flatR (mix rs0 i)) ∧ Ch [blkOf sx] w13 w') (fun st _ => rs0.length - st.1.toNat) ⟨0, rfl, Nat.zero_le _, by rw [mix_0]; exact hx12, Ch.refl _ _⟩ ?_
  rintro ⟨i0, u⟩ w14 next ⟨i, rfl, hi, ho14, hc14⟩ hnext
  dsimp only
  refine iteB_dec (fun h => ?_) fun h => ?_
  · have hlt : i < rs0.length := by omega
    have d1 : Ch [] w14 w14.drew := Ch.drew _
    have hcell : ∀ {K : Addr → Prop}, (∀ ad, w14.drew.cell? ad = some (.bool rs0[i].1) → w14.drew.cell? (ad.add 1) = some (.int .i64 rs0[i].2) → K ad) → idxP sx.a sx.l (i : Int) 2 K := fun hK => by
      have hm : i < (mix rs0 i).length := by rw [mix_len]; exact hlt
      have e : (mix rs0 i)[i] = rs0[i] := by
        have := mix_at rs0 i i
        rw [List.getElem?_eq_getElem hm, List.getElem?_eq_getElem hlt] at this
        simpa using this
      refine (ho14.ch0 d1).rdQ.cel rfl hm fun ad c1 c2 => ?_
      rw [e] at c1 c2
      exact hK ad c1 c2
    refine hcell fun ad c1 c2 => ldB_of c1 (hcell fun ad c1 c2 => ldI_of c2 ?_)
    refine (ho14.ch0 d1).st2' (x := i) (by omega) rfl fun w15 ho15 hc15 hz15 => ?_
    replace ho15 : Own w15 58 2 sx (((flatR (mix rs0 i)).set (i * 2) (.bool (trn rs0[i]).1)).set (i * 2 + 1) (.int .i64 (trn rs0[i]).2)) := ho15
    rw [flatR_set (mix rs0 i) i (trn rs0[i]), mix_set _ hlt] at ho15
    rw [wrap_i64 (by omega)]
    exact hnext _ _ ⟨i + 1, by simp, hlt, ho15, (hc14.tr0 d1).tr hc15⟩ (by simp; omega)
  have hie : i = rs0.length := by omega
  subst hie
  rw [mix_n] at ho14
  have hc614 : Ch [] v6 w14 := (hc8.tr hc812).trO hc14 hgx
  have hc014 := hc06.tr hc614
  have hb1f := hb1.ch0 hc614
  refine ldI_b (o := 0) hb1f rfl (ldI_b hb1f rfl (ldI_b hb1f rfl (ldI_b hb1f rfl (ldS_b (s := s) hb1f rfl (ldS_b (s := sa) hb1f rfl ?_)))))
  refine (G2 _ hc014 ho14 (by simp [turn, hl0])).run fun so3 sp3 w16 hE3 hc16 => ?_
  have hq := turnE (E := E) hl0 hno
  rw [hq.run, hq.sound, h0] at *
  have hb10 := ((hb11.ch0 hc12).ch hc14 (fun hin => hk10 k10 rfl (Eq.symm (show some k10 = blkOf sx from hin)))).ch0 hc16
  have hz14 := hc14.size
  have hz12 := hc12.size
  have hk10lt := hb11.below
  refine st6n hb10 fun w17 hc17 hb17 hs17 => iteB_pos rfl ?_
  replace hb17 : Blk w17 k10 (efC (runE E) so3 sp3) _ := hb17
  have hz811 := hc811.size
  have hc617 : Ch [] v6 w17 := (hc614.tr hc16).trN hc17 (by omega)
  refine ld6 (so := so) (sp := sp) (hb6.ch0 hc617) (ld6 (so := so3) (sp := sp3) hb17 ?_)
  have hE3' : EfM w14.heap.size w17 so3 sp3 (runE E) := hE3.chg hc17 fun k hk => by
    have hk : some k = some k10 := hk
    cases hk
    left; omega
  exact (hE.ch0 hc617).same hE3' hl fun w18 hc18 => ⟨rfl, (hc06.tr hc617).tr hc18⟩
end Go.Proofs.Ytlkgnfpjmafdkaa
