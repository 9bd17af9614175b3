/- VrR: the document's machine: New, Effect, Run. -/
import Derived.Test.YtlkgnfpjmafdkaaVrS
set_option linter.unusedVariables false
set_option linter.unusedSimpArgs false
namespace Go.Proofs.Ytlkgnfpjmafdkaa
open Go Go.Sh Go.Pl Go.RowKit Go.Lang Go.Vm Go.Names Go.Gt
variable {N0 : Nat}
/-- The document's machine in memory; its blocks are of a set. -/
def Rn (N0 : Nat) (S : Nat → Prop) (w : World) (b : Nat) (E : En) (m : Mc) : Prop := ∃ q O, RmX N0 w b E m q O ∧ ∀ k, O k ≠ 0 → S k
theorem Rn.mono {S T : Nat → Prop} {w : World} {b : Nat} {E : En} {m : Mc} (h : Rn N0 S w b E m) (hs : ∀ k, S k → T k) : Rn N0 T w b E m := by
  obtain ⟨q, O, h1, h2⟩ := h
  exact ⟨q, O, h1, fun k hk => hs k (h2 k hk)⟩
theorem Rn.ch0 {S : Nat → Prop} {w w' : World} {b : Nat} {E : En} {m : Mc} (h : Rn N0 S w b E m) (hc : Ch [] w w') : Rn N0 S w' b E m := by
  obtain ⟨q, O, h1, h2⟩ := h
  exact ⟨q, O, h1.ch0 hc, h2⟩
/-- Blocks that are new since there were N0, and not the machine's, may change. -/
theorem Rn.chg {S T : Nat → Prop} {w w' : World} {b : Nat} {E : En} {m : Mc} (h : Rn N0 S w b E m) (hc : Chg T w w') (hn : ∀ k, T k → N0 ≤ k) (hs : ∀ k, k < w.heap.size → S k → ¬ T k) : Rn N0 S w' b E m := by
  obtain ⟨q, O, h1, h2⟩ := h
  have hN : Chg (fun k => N0 ≤ k) w w' := hc.mono fun k _ hk => hn k hk
  have ne : ∀ k, k < w.heap.size → O k ≠ 0 → ¬ T k := fun k hk ho => hs k hk (h2 k ho)
  refine ⟨q, O, ⟨h1.blk.chg hc (ne b h1.blk.lt (by rw [h1.ob]; decide)), h1.co.af hN, h1.ar.af hN, h1.re.af hN,
    h1.st.chg hc (fun k hk => ne k (h1.st.lt k hk) (by rw [h1.os k hk]; decide)), h1.lo.chg hc (fun k hk => ne k (h1.lo.lt k hk) (by rw [h1.ol k hk]; decide)),
    h1.ou.chg hc (fun k hk => ne k (h1.ou.lt k hk) (by rw [h1.oo k hk]; decide)), h1.pu.chg hc (fun k hk => ne k (h1.pu.lt k hk) (by rw [h1.op k hk]; decide)),
    h1.ob, h1.os, h1.ol, h1.oo, h1.op, Nat.le_trans h1.nz hc.size, h1.nb⟩, h2⟩
theorem Rn.step {S : Nat → Prop} {w : World} {b : Nat} {E : En} {m : Mc} {K : Bool → World → Prop} (h : Rn N0 S w b E m) (hS : Sound E) (hI : Iv E m) (h64 : M64 m)
    (hK : (m.dn = true → K false w) ∧ (m.dn = false → ∀ w', Rn N0 (fun k => S k ∨ w.heap.size ≤ k) w' b E (Vm.step E m) → Chg S w w' → K true w')) : c_preluderef05_Machine_Step (some ⟨b, 0, none⟩) w K := by
  obtain ⟨q, O, h1, h2⟩ := h
  refine rstep_ok h1 hS hI h64 ⟨hK.1, fun hd q' O' w' h' hp => hK.2 hd w' ⟨q', O', h', fun k hk => ?_⟩ (hp.2.mono fun i _ hi => h2 i hi)⟩
  rcases Nat.lt_or_ge k w.heap.size with hlt | hge
  · left; exact h2 k (by rw [← hp.1 k hlt]; exact hk)
  · exact .inr hge
set_option maxRecDepth 20000 in
set_option maxHeartbeats 4000000 in
theorem rnew_ok {E : En} {s sa sr : Slc} {w : World} {K : Option Addr → Int → World → Prop} (hG : Gv w E s sa sr) (hN : N0 ≤ w.heap.size) (hG' : ∀ w', Chg (fun k => N0 ≤ k) w w' → Gv w' E s sa sr)
    (hK : (newE E ≠ 0 → ∀ w', Ch [] w w' → K none (newE E) w') ∧ (Sound E → ∀ k w', Rn N0 (fun i => w.heap.size ≤ i) w' k E (mc0 E) → Ch [] w w' → K (some ⟨k, 0, none⟩) 0 w')) : c_preluderef05_New E.a E.b E.c E.d s sa sr w K := by
  refine sim_preluderef05_New ?_
  unfold sh_preluderef05_New
  have la := hG.la
  have lr := hG.lr
  refine newB fun k1 w1 hc1 hb1 hk1 hs1 => ?_
  refine ldPr (s := s) hb1 ?_
  refine refVerify_ok (hG.rc.ch0 hc1) hG.big fun w2 hc2 => ?_
  replace hb1 := hb1.ch0 hc2
  replace hc2 := hc1.tr hc2
  have hk1' := hb1.below
  refine iteB_ne (fun h => ?_) (fun h => ?_)
  · have e : newE E = (depths E.a E.b E.c E.d E.is).2 := by unfold newE; rw [if_pos h]
    rw [← e]
    exact hK.1 (by rw [e]; exact h) w2 hc2
  refine ldI_b (o := 0) hb1 rfl ?_
  have bad : ((E.args.length : Int) ≠ E.a ∨ (E.rs.length : Int) ≠ E.b) → K none 50 w2 := fun hb => by
    have e : newE E = 50 := by unfold newE; rw [if_neg (fun hn => hn h), if_pos hb]
    rw [← e]
    exact hK.1 (by rw [e]; decide) w2 hc2
  refine iteB_ne (fun h2 => bad (.inl (by omega))) (fun h2 => ?_)
  refine ldI_b hb1 rfl ?_
  refine iteB_ne (fun h3 => bad (.inr (by omega))) (fun h3 => ?_)
  have hS : Sound E := ⟨h, by omega, by omega⟩
  replace hK := hK.2 hS
  have rng := hS.rng
  refine ldPr (s := s) hb1 ?_
  refine ldS_b (s := s) hb1 rfl ?_
  refine newB fun kb w8 hc8 hb8 hkb hs8 => ?_
  have ls := hG.rc.len
  have eb : ((s.l : Int) == 0) = (E.is.length == 0) := by rw [ls, Bool.eq_iff_iff]; simp
  rw [eb] at hb8
  have hG8 := hG.ch0 (hc2.tr hc8)
  have hz2 := hc2.size
  have fresh : ∀ {O : Nat → Nat} {w'}, (∀ k, O k ≠ 0 → w8.heap.size ≤ k ∨ k = kb) → Chg (fun k => O k ≠ 0) w8 w' → Ch [] w w' := fun hO hc => Chg.step (show Chg Nil w w8 from hc2.tr hc8) hc fun i hi e => by
    have := hc8.size
    rcases hO i e with h | h <;> omega
  have hO0 : ∀ k, (if k = kb then 1 else 0) ≠ 0 → w8.heap.size ≤ k ∨ k = kb := fun k hk => by
    by_cases h : k = kb
    · exact .inr h
    · rw [if_neg h] at hk; exact absurd rfl hk
  have gg : ∀ w', Chg (fun k => N0 ≤ k) w8 w' → Gv w' E s sa sr := fun w' hc => hG' w' ((Chg.mono (show Chg Nil w w8 from hc2.tr hc8) fun _ _ h => h.elim).step hc fun _ _ h => h)
  have hM : RmX N0 w8 kb E ⟨[], [], [], [], 0, 0, E.is.length == 0, 0, 0⟩ ⟨s, sa, sr, ⟨none, 0, 0⟩, ⟨none, 0, 0⟩, ⟨none, 0, 0⟩, ⟨none, 0, 0⟩, fun _ => .nilFunc⟩ (fun k => if k = kb then 1 else 0) :=
    ⟨hb8, fun w' hc => (gg w' hc).rc, fun w' hc => (gg w' hc).ra, fun w' hc => (gg w' hc).rr, Own.nil _ _ _, Own.nil _ _ _, Own.nil _ _ _, Own.nil _ _ _, if_pos rfl, fun k hk => (by cases hk), fun k hk => (by cases hk), fun k hk => (by cases hk), fun k hk => (by cases hk), by have := hc8.size; omega, fun k hk => by rcases hO0 k hk with h | h <;> (have := hc8.size; omega)⟩
  have hOk : (if k1 = kb then 1 else 0) = 0 := if_neg (by omega)
  generalize hO : (fun k => if k = kb then 1 else 0) = O1 at hM
  have hO1 : ∀ k, O1 k ≠ 0 → w2.heap.size ≤ k := fun k hk => by
    rw [← hO] at hk
    rcases hO0 k hk with h | h
    · have := hc8.size; omega
    · omega
  have hOk : O1 k1 = 0 := by rw [← hO]; exact hOk
  replace hb1 := hb1.ch0 hc8
  refine ldI_b (n := E.d) hb1 rfl ?_
  have ed : E.d = ((E.d.toNat : Nat) : Int) := by omega
  have ec : E.c = ((E.c.toNat : Nat) : Int) := by omega
  rw [ed]
  refine mkP_intro TI6 (by omega) (by omega) fun w9 (hc9 : Ch [] w8 w9) hb9 hs9 => ?_
  rw [madeI] at hb9
  have ho9 := Own.new hb9 (by simp [maxLen]; omega)
  simp only [List.size_toArray, Is_length, List.length_replicate, List.toList_toArray] at ho9
  simp only [nnP_some]
  refine RmX.lok (s' := ⟨some ⟨w8.heap.size, 0, none⟩, E.d.toNat, E.d.toNat⟩) (lo' := zs E.d) ⟨hM, Chg.mono hc9 fun _ _ h => h.elim, hM.ol, fun k hk => by cases hk; exact .inr (Nat.le_refl _)⟩ ho9 fun O2 w10 h10 p10 => ?_
  obtain ⟨hb10, z10⟩ := p10.tmp hb1 hOk
  refine ldI_b (n := E.c) hb10 rfl ?_
  rw [ec]
  refine mkP_intro TPu (by omega) (by omega) fun w11 (hc11 : Ch [] w10 w11) hb11 hs11 => ?_
  have ho11 : Own w11 71 2 ⟨some ⟨w10.heap.size, 0, none⟩, E.c.toNat, E.c.toNat⟩ (flat (zp E.c)) := by
    refine ⟨by rw [flat_length]; simp [zp], .inr ⟨_, E.c.toNat, _, rfl, Nat.zero_le _, hb11, Nat.le_refl _, by unfold maxLen; omega, by simp [madeCells], ?_⟩⟩
    rw [made2]
    unfold zp
    rw [flat_rep, List.take_of_length_le (by simp)]
  refine RmX.puk (s' := ⟨some ⟨w10.heap.size, 0, none⟩, E.c.toNat, E.c.toNat⟩) (pu' := zp E.c) ⟨h10, Chg.mono hc11 fun _ _ h => h.elim, h10.op, fun k hk => by cases hk; exact .inr (Nat.le_refl _)⟩ ho11 fun O3 w12 h12 p12 => ?_
  have p := p10.tr p12
  refine hK kb w12 ⟨_, O3, h12, fun k hk => ?_⟩ (Chg.step (show Chg Nil w w8 from hc2.tr hc8) p.2 fun i hi e => ?_)
  · rcases Nat.lt_or_ge k w8.heap.size with hlt | hge
    · have := hO1 k (by rw [← p.1 k hlt]; exact hk)
      omega
    · have := hc8.size; omega
  · have := hO1 i e
    omega
theorem app_nil {P : Program} {t e ty : TypeId} {z : Value} {size bytes : Nat} (T : ElT P t e z size bytes) {w : World} {x : Slc} {news : List Value} {K : Slc → World → Prop} (h : RdQ w size x news) (hn : x.a = none → x.l = 0 ∧ x.c = 0)
    (h1 : ∀ u ∈ news, u.oneCell' = true) (hl : x.l ≤ 16) (hb : bytes ≤ 100)
    (hK : ∀ s' w', Own w' e size s' news → Ch [] w w' → Ge w.heap.size (blkOf s') → K s' w') :
    apP P #[t, t] ty [.slice none 0 0, .slice x.a x.l x.c] w K := by
  have hb' : (0 + x.l) * bytes ≤ 140737488355328 := by
    have : (0 + x.l) * bytes ≤ 16 * 100 := Nat.mul_le_mul (by omega) hb
    omega
  refine apP_own T (s := ⟨none, 0, 0⟩) (x := x) (vs := []) (news := news) (Own.nil _ _ _) hn h.len (fun ad ha j u hu => ?_) h1 hb' (by show 0 + x.l ≤ _; omega) fun s' w' ho hl' hc hblk hsz hnil => ?_
  · obtain ⟨ad', ha', hx⟩ := h.at_ j u hu
    rw [ha] at ha'; cases ha'
    exact hx
  · rw [List.nil_append] at ho
    refine hK s' w' ho (Chg.mono hc fun i _ hi => by have hi : some i = none := hi; cases hi) fun j hj => ?_
    rcases hblk with h2 | h2
    · rw [h2] at hj; cases hj
    · rw [h2] at hj; cases hj; exact Nat.le_refl _
set_option maxRecDepth 4000 in
set_option maxHeartbeats 1000000 in
theorem reffect_ok {w : World} {b : Nat} {E : En} {m : Mc} {q : Sl} {O : Nat → Nat} {K : Bool → Int → Int → Slc → Slc → Int → World → Prop} (h : RmX N0 w b E m q O) (ho : m.out.length ≤ 16) (hp : m.pu.length ≤ 16)
    (hK : ∀ so sp w', EfM w.heap.size w' so sp (efOf m) → Ch [] w w' → K (efOf m).t (efOf m).cd (efOf m).us so sp (efOf m).n w') : c_preluderef05_Machine_Effect (some ⟨b, 0, none⟩) w K := by
  refine sim_preluderef05_Machine_Effect ?_
  unfold sh_preluderef05_Machine_Effect
  simp only [nnP_some]
  refine newB fun k1 w1 hc1 hb1 hk1 hs1 => ?_
  have h1 := h.ch0 hc1
  refine ldB_b (s := m.dn) h1.blk rfl ?_
  cases hd : m.dn with
  | false =>
    have e : efOf m = ef0 := by unfold efOf; rw [hd]; rfl
    rw [e] at hK
    refine iteB_pos rfl ?_
    refine st6n hb1 fun w2 hc2 hb2 hs2 => ?_
    refine ld6 (so := ⟨none, 0, 0⟩) (sp := ⟨none, 0, 0⟩) hb2 ?_
    exact hK _ _ w2 (EfM.nil _ _) (hc1.trN hc2 (by omega))
  | true =>
    have e : efOf m = ⟨m.cd == 0, m.cd, m.us, m.out, m.pu, m.n⟩ := by unfold efOf; rw [hd]; rfl
    rw [e] at hK
    refine iteB_neg rfl ?_
    have d1 : Ch [] w1 w1.drew := Ch.drew _
    have h2 := h1.ch0 d1
    have hb2 := hb1.ch0 d1
    have lo : q.so.l = m.out.length := by have := h.ou.rd.len; simpa using this
    have lp : q.sp.l = m.pu.length := by have := h.pu.len; rw [flat_length] at this; omega
    refine ldI_b (n := m.cd) h2.blk rfl (ldI_b (n := m.cd) h2.blk rfl (ldI_b (n := m.us) h2.blk rfl (ldI_b (n := (m.n : Int)) h2.blk rfl ?_)))
    refine newB fun k3 w3 hc3 hb3 hk3 hs3 => ?_
    have h3 := h2.ch0 hc3
    refine ⟨by rw [add_mk, Nat.zero_add, h3.blk.cell]; rfl, by rw [add_mk, Nat.zero_add, h3.blk.cell]; rfl, by rw [add_mk, Nat.zero_add, h3.blk.cell]; rfl, by rw [add_mk, Nat.zero_add, h3.blk.cell]; rfl, ?_⟩
    refine st6n hb3 fun w4 hc4 hb4 hs4 => ?_
    have hz1 := d1.size
    have hc14 : Ch [] w w4 := ((hc1.tr d1).tr hc3).trN hc4 (by omega)
    have hk1 := hb2.below
    have hb14 := (hb2.ch0 hc3).ch hc4 (nin1' (by omega))
    have d4 : Ch [] w4 w4.drew := Ch.drew _
    have h4 := h.ch0 (hc14.tr d4)
    refine ldS_b (s := ⟨none, 0, 0⟩) (hb4.ch0 d4) rfl (ldS_b (s := q.so) h4.blk rfl ?_)
    refine app_nil TI6 h4.ou.rdQ (fun hn => h4.ou.none0 hn) (Is_one _ _) (by omega) (by decide) fun so w5 ho5 hc5 hg5 => ?_
    have hk3lt := hb4.below
    have d4z : w4.drew.heap.size = w4.heap.size := rfl
    refine stB ((hb4.ch0 d4).ch0 hc5) (by simp) fun w6 hc6 hb6 hs6 => ?_
    replace hb6 : Blk w6 k3 #[.bool (m.cd == 0), .int .i64 m.cd, .int .i64 m.us, slW so, .slice none 0 0, .int .i64 m.n] _ := hb6
    have d6 : Ch [] w6 w6.drew := Ch.drew _
    have hc06 : Ch [] w w6.drew := (((hc14.tr d4).tr hc5).trN hc6 (by omega)).tr d6
    have h6 := h.ch0 hc06
    have ho6 := (ho5.ch hc6 fun k hk => nin1' (by have := hg5 k hk; omega)).ch0 d6
    refine ldS_b (s := ⟨none, 0, 0⟩) (hb6.ch0 d6) rfl (ldS_b (s := q.sp) h6.blk rfl ?_)
    refine app_nil TPu h6.pu.rdQ (fun hn => h6.pu.none0 hn) (flat_one _) (by omega) (by decide) fun sp w7 hp7 hc7 hg7 => ?_
    refine stB ((hb6.ch0 d6).ch0 hc7) (by simp) fun w8 hc8 hb8 hs8 => ?_
    replace hb8 : Blk w8 k3 #[.bool (m.cd == 0), .int .i64 m.cd, .int .i64 m.us, slW so, slW sp, .int .i64 m.n] _ := hb8
    have hz5 := hc5.size
    have hz6 := hc6.size
    have d6z : w6.drew.heap.size = w6.heap.size := rfl
    have hz7 := hc7.size
    refine ld6 (so := so) (sp := sp) hb8 ?_
    have hb18 : Blk w8 k1 _ _ := (((((hb14.ch0 d4).ch0 hc5).ch hc6 (nin1' (by omega))).ch0 d6).ch0 hc7).ch hc8 (nin1' (by omega))
    refine st6n hb18 fun w9 hc9 hb9 hs9 => ?_
    refine ld6 (so := so) (sp := sp) hb9 ?_
    have ho8 := (ho6.ch0 hc7).ch hc8 fun k hk => nin1' (by have := hg5 k hk; omega)
    have hp8 := hp7.ch hc8 fun k hk => nin1' (by have := hg7 k hk; omega)
    refine hK so sp w9 ⟨ho8.ch hc9 fun k hk => nin1' (by have := hg5 k hk; omega), hp8.ch hc9 fun k hk => nin1' (by have := hg7 k hk; omega), fun k hk => (by have := hg5 k hk; have := hc14.size; omega), fun k hk => (by have := hg7 k hk; have := hc14.size; omega), fun k hk hk' => ?_⟩ (((hc06.tr hc7).trN hc8 (by omega)).trN hc9 (by omega))
    have := ho6.lt k hk
    have := hg7 k hk'
    omega
theorem Rn.effect {S : Nat → Prop} {w : World} {b : Nat} {E : En} {m : Mc} {K : Bool → Int → Int → Slc → Slc → Int → World → Prop} (h : Rn N0 S w b E m) (hS : Sound E) (hI : Iv E m)
    (hK : ∀ so sp w', EfM w.heap.size w' so sp (efOf m) → Ch [] w w' → K (efOf m).t (efOf m).cd (efOf m).us so sp (efOf m).n w') : c_preluderef05_Machine_Effect (some ⟨b, 0, none⟩) w K := by
  obtain ⟨q, O, h1, h2⟩ := h
  have := hS.rng
  have := hI.pu
  exact reffect_ok h1 hI.out (by omega) hK
set_option maxRecDepth 4000 in
set_option maxHeartbeats 1000000 in
theorem rrun_ok {E : En} {s sa sr : Slc} {w : World} {K : Bool → Int → Int → Slc → Slc → Int → Int → World → Prop} (hG : Gv w E s sa sr) (hB : B64 E)
    (hK : ∀ so sp w', EfM w.heap.size w' so sp (runE E) → Ch [] w w' → K (runE E).t (runE E).cd (runE E).us so sp (runE E).n (newE E) w') : c_preluderef05_Run E.a E.b E.c E.d s sa sr w K := by
  refine sim_preluderef05_Run ?_
  unfold sh_preluderef05_Run
  refine newB fun k1 w1 hc1 hb1 hk1 hs1 => ?_
  refine newB fun k3 w3 hc3 hb3 hk3 hs3 => ?_
  have hc03 := hc1.tr hc3
  refine ldPr (s := s) (hb1.ch0 hc3) ?_
  refine rnew_ok (N0 := w3.heap.size) (hG.ch0 hc03) (Nat.le_refl _) (fun w' hc => (hG.ch0 hc03).ch0 (hc.mono fun i hi h => absurd hi (by omega))) ⟨fun hne w4 hc4 => ?_, fun hS kb w4 hM hc4 => ?_⟩
  · have e : runE E = ef0 := by unfold runE; rw [if_neg hne]
    rw [e] at hK
    refine iteB_pos (by simpa using hne) ?_
    refine st6n (hb3.ch0 hc4) fun w5 hc5 hb5 hs5 => ?_
    refine ld6 (so := ⟨none, 0, 0⟩) (sp := ⟨none, 0, 0⟩) hb5 ?_
    exact hK _ _ w5 (EfM.nil _ _) ((hc03.tr hc4).trN hc5 (by omega))
  · have e0 := newE_s hS
    have e : runE E = efOf (endOf E) := by unfold runE; rw [if_pos e0]
    rw [e, e0] at hK
    refine iteB_neg rfl ?_
    simp only [nnP_some]
    have hk3' := hb3.below
    refine loopP_g (fun (m : Mc) _ w' => Iv E m ∧ M64 m ∧ Rn w3.heap.size (fun i => w3.heap.size ≤ i) w' kb E m ∧ Ch [] w w' ∧ w3.heap.size ≤ w'.heap.size ∧ Blk w' k3 #[.bool false, .int .i64 0, .int .i64 0, .slice none 0 0, .slice none 0 0, .int .i64 0] 48 ∧ ∃ k, left E m ≤ k ∧ fin E k m = endOf E) (fun m => left E m) (mc0 E) ⟨Iv.init hS, init64 E, hM, hc03.tr hc4, hc4.size, hb3.ch0 hc4, 257, left0 hS, rfl⟩ ?_
    rintro m ⟨⟩ w5 next ⟨hI, h64, hM5, hc5, hz5, hb5, k, hk, hf⟩ hnext
    have hdn : ∀ {X : Bool → Prop}, X m.dn → ldB ((⟨kb, 0, none⟩ : Addr).add 13) w5 X := fun hX => by
      obtain ⟨q, O, h1, h2⟩ := hM5
      exact ldB_b (s := m.dn) h1.blk rfl hX
    refine hdn ?_
    cases hd : m.dn with
    | true =>
      refine iteB_neg rfl ?_
      rw [fin_dn hd] at hf
      subst hf
      refine hM5.effect hS hI fun so sp w7 hE hc7 => ?_
      refine st6n (hb5.ch0 hc7) fun w8 hc8 hb8 hs8 => ?_
      refine ld6 (so := so) (sp := sp) hb8 ?_
      refine hK so sp w8 ((hE.le (m := w3.heap.size) hz5).chg hc8 (fun j hj => ?_) |>.le (by have := hc03.size; omega)) ((hc5.tr hc7).trN hc8 (by omega))
      have hj : some j = some k3 := hj
      cases hj
      exact .inl hk3'
    | false =>
      refine iteB_pos rfl ?_
      refine hM5.step hS hI h64 ⟨fun h => (by rw [hd] at h; cases h), fun _ w6 hM6 hc6 => ?_⟩
      have hlt := left_step hS hI hd
      refine hnext (Vm.step E m) () w6 ⟨hI.step hS hd, step64 hB h64, hM6.mono fun i hi => hi.elim id fun h => by omega, Chg.step hc5 hc6 (fun i hi h => ?_), by have := hc6.size; omega, hb5.chg hc6 (fun h => ?_), k - 1, by omega, ?_⟩ hlt
      · have := hc03.size; omega
      · omega
      · cases k with
        | zero => omega
        | succ k =>
          rw [← hf]
          show fin E k (Vm.step E m) = if m.dn then m else fin E k (Vm.step E m)
          rw [if_neg (by simp [hd])]
end Go.Proofs.Ytlkgnfpjmafdkaa
