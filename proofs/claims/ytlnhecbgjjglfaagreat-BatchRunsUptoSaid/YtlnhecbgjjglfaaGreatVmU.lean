/- VmU: clones; vm.New; Effect; Run. -/
import Derived.Test.YtlnhecbgjjglfaaGreatVmT
import Derived.Test.YtlnhecbgjjglfaaGreatLookB
set_option linter.unusedVariables false
set_option linter.unusedSimpArgs false
namespace Go.Pl
open Go Go.Sh Go.RowKit
/-- A slice whose elements' cells are these. -/
structure RdQ (w : World) (sz : Nat) (s : Slc) (vs : List Value) : Prop where
  len : vs.length = s.l * sz
  cap : s.l ≤ s.c
  at_ : ∀ j v, vs[j]? = some v → ∃ ad, s.a = some ad ∧ w.cell? (ad.add j) = some v
theorem RdQ.chg {w w' : World} {S : Nat → Prop} {sz : Nat} {s : Slc} {vs : List Value} (h : RdQ w sz s vs) (hc : Chg S w w') (hn : ∀ b, blkOf s = some b → ¬ S b) : RdQ w' sz s vs :=
  ⟨h.len, h.cap, fun j v hv => by
    obtain ⟨ad, ha, hx⟩ := h.at_ j v hv
    exact ⟨ad, ha, cell_chg hc hx (by rw [add_block]; exact hn _ (by simp [blkOf, ha]))⟩⟩
theorem RdQ.ch0 {w w' : World} {sz : Nat} {s : Slc} {vs : List Value} (h : RdQ w sz s vs) (hc : Ch [] w w') : RdQ w' sz s vs := h.chg hc fun _ _ h => h
theorem Own.rdQ {w : World} {e : TypeId} {sz : Nat} {s : Slc} {vs : List Value} (h : Own w e sz s vs) : RdQ w sz s vs := by
  refine ⟨h.len, ?_, fun j v hv => h.cell hv⟩
  rcases h.2 with ⟨hs, hn⟩ | ⟨g, cap, cur, hs, hb, hg, hnc, hcm, hcs, htake⟩
  · injection hs with e1 e2 e3; omega
  · injection hs with e1 e2 e3; omega
theorem Rd.rdQ {w : World} {s : Slc} {vs : List Value} (h : Rd w s vs) : RdQ w 1 s vs := ⟨by rw [h.len]; omega, h.cap, fun j v hv => by
  have hj := (List.getElem?_eq_some_iff.1 hv).1
  obtain ⟨ad, ha, hx⟩ := h.at_ j hj
  exact ⟨ad, ha, by rw [hx, hv]⟩⟩
theorem RdC.rdQ {w : World} {s : Slc} {cs : List (Int × Int)} (h : RdC w s cs) : RdQ w 2 s (flat cs) := ⟨by rw [flat_length, h.len], h.cap, fun j v hv => by
  obtain ⟨i, x, hx, hc⟩ := flat_inv cs j v hv
  obtain ⟨ad, ha, h1, h2⟩ := h.at_ i x hx
  rcases hc with ⟨rfl, rfl⟩ | ⟨rfl, rfl⟩
  · exact ⟨ad, ha, h1⟩
  · exact ⟨ad, ha, by rw [← Deep.add_add]; exact h2⟩⟩
theorem clone_gen {P : Program} {t e ty : TypeId} {z : Value} {size bytes : Nat} (T : ElT P t e z size bytes) {w : World} {x : Slc} {news : List Value} {K : Slc → World → Prop} (h : RdQ w size x news) (hn : x.a = none → x.l = 0 ∧ x.c = 0)
    (h1 : ∀ u ∈ news, u.oneCell' = true) (hl : x.l ≤ 100000000000) (hb : bytes ≤ 100)
    (hK : ∀ s' w', Own w' e size s' news → Ch [] w w' → Ge w.heap.size (blkOf s') → K s' w') :
    iteB (x.a.isNone) (K ⟨none, 0, 0⟩ w) (newP #[] e w fun a1 w2 => apP P #[t, t] ty [.slice (some a1) 0 0, .slice x.a x.l x.c] w2 fun s4 w3 => K s4 w3) := by
  refine iteB_intro (fun hi => ?_) (fun hi => ?_)
  · have ha : x.a = none := by simpa using hi
    have h0 : news = [] := List.eq_nil_of_length_eq_zero (by rw [h.len, (hn ha).1]; omega)
    subst h0
    exact hK _ w (Own.nil _ _ _) (Ch.refl _ _) fun k hk => by cases hk
  · refine newB fun k w1 hc1 hb1 hk1 hs1 => ?_
    have hb' : (0 + x.l) * bytes ≤ 140737488355328 := by
      have : (0 + x.l) * bytes ≤ 100000000000 * 100 := Nat.mul_le_mul (by omega) hb
      omega
    refine apP_own T (s := ⟨some ⟨k, 0, none⟩, 0, 0⟩) (x := x) (vs := []) (news := news) ⟨by simp, .inr ⟨k, 0, #[], rfl, Nat.zero_le _, hb1, Nat.le_refl _, by unfold maxLen; omega, by simp, by simp⟩⟩ hn h.len (fun ad ha j u hu => ?_) h1 hb' (by show 0 + x.l ≤ _; omega) fun s' w' ho hl' hc hblk hsz hnil => ?_
    · obtain ⟨ad', ha', hx⟩ := h.at_ j u hu
      rw [ha] at ha'; cases ha'
      exact cell_chg (show Chg Nil w w1 from hc1) hx fun h => h
    · rw [List.nil_append] at ho
      refine hK s' w' ho (Chg.step (show Chg Nil w w1 from hc1) hc fun i hi he => ?_) fun j hj => ?_
      · have he : some i = some k := he
        cases he; omega
      · rcases hblk with h2 | h2
        · rw [h2] at hj
          have hj : some k = some j := hj
          cases hj; omega
        · rw [h2] at hj; cases hj; omega
end Go.Pl
namespace Go.Vm
open Go Go.Sh Go.Pl Go.Lang
/-- What is wrong with what is given. -/
def newE (E : En) : Int := if (depths E.a E.b E.c E.d E.is).2 ≠ 0 then (depths E.a E.b E.c E.d E.is).2 else if (E.args.length : Int) ≠ E.a ∨ (E.rs.length : Int) ≠ E.b then 50 else 0
theorem newE_0 {E : En} (h : newE E = 0) : Sound E := by
  unfold newE at h
  split at h
  · rename_i hn; exact absurd h hn
  · split at h
    · cases h
    · rename_i h1 h2
      exact ⟨Decidable.not_not.1 h1, by omega, by omega⟩
theorem newE_s {E : En} (h : Sound E) : newE E = 0 := by
  unfold newE
  rw [if_neg (fun hn => hn h.ok), if_neg (by have := h.args; have := h.reads; omega)]
/-- An effect. -/
structure Ef where
  t : Bool
  cd : Int
  us : Int
  out : List Int
  pu : List (Int × Int)
  n : Int
deriving DecidableEq
def ef0 : Ef := ⟨false, 0, 0, [], [], 0⟩
def efOf (m : Mc) : Ef := if m.dn then ⟨m.cd == 0, m.cd, m.us, m.out, m.pu, m.n⟩ else ef0
/-- What Run tells. -/
def runE (E : En) : Ef := if newE E = 0 then efOf (endOf E) else ef0
end Go.Vm
namespace Go.Proofs.YtlnhecbgjjglfaaGreat
open Go Go.Sh Go.Pl Go.RowKit Go.Lang Go.Vm
theorem clone64_ok {w : World} {s : Slc} {xs : List Int} {K : Slc → World → Prop} (h : RdQ w 1 s (Is .i64 xs)) (hn : s.a = none → s.l = 0 ∧ s.c = 0) (hl : s.l ≤ 100000000000) (hK : ∀ s' w', Own w' 2 1 s' (Is .i64 xs) → Ch [] w w' → Ge w.heap.size (blkOf s') → K s' w') : c_slices_Clone_int64_int64 s w K := by
  refine sim_slices_Clone_int64_int64 ?_
  unfold sh_slices_Clone_int64_int64
  exact clone_gen TI6 h hn (Is_one _ _) hl (by decide) hK
theorem cloneP_ok {w : World} {s : Slc} {xs : List (Int × Int)} {K : Slc → World → Prop} (h : RdQ w 2 s (flat xs)) (hn : s.a = none → s.l = 0 ∧ s.c = 0) (hl : s.l ≤ 100000000000) (hK : ∀ s' w', Own w' 139 2 s' (flat xs) → Ch [] w w' → Ge w.heap.size (blkOf s') → K s' w') : c_slices_Clone_api_Put_api_Put s w K := by
  refine sim_slices_Clone_api_Put_api_Put ?_
  unfold sh_slices_Clone_api_Put_api_Put
  exact clone_gen TPu h hn (flat_one _) hl (by decide) hK
theorem cloneI_ok {w : World} {s : Slc} {xs : List (Int × Int)} {K : Slc → World → Prop} (h : RdQ w 2 s (flat xs)) (hn : s.a = none → s.l = 0 ∧ s.c = 0) (hl : s.l ≤ 100000000000) (hK : ∀ s' w', Own w' 102 2 s' (flat xs) → Ch [] w w' → Ge w.heap.size (blkOf s') → K s' w') : c_slices_Clone_api_Instr_api_Instr s w K := by
  refine sim_slices_Clone_api_Instr_api_Instr ?_
  unfold sh_slices_Clone_api_Instr_api_Instr
  exact clone_gen TIn h hn (flat_one _) hl (by decide) hK
theorem cloneC_ok {w : World} {s : Slc} {xs : List Cel} {K : Slc → World → Prop} (h : RdQ w 2 s (flatR xs)) (hn : s.a = none → s.l = 0 ∧ s.c = 0) (hl : s.l ≤ 100000000000) (hK : ∀ s' w', Own w' 25 2 s' (flatR xs) → Ch [] w w' → Ge w.heap.size (blkOf s') → K s' w') : c_slices_Clone_api_Cell_api_Cell s w K := by
  refine sim_slices_Clone_api_Cell_api_Cell ?_
  unfold sh_slices_Clone_api_Cell_api_Cell
  exact clone_gen TCe h hn (flatR_one _) hl (by decide) hK
/-- A machine in memory; its blocks are of a set. -/
def Mn (S : Nat → Prop) (w : World) (b : Nat) (E : En) (m : Mc) : Prop := ∃ q O, MmX w b E m q O ∧ ∀ k, O k ≠ 0 → S k
theorem Mn.mono {S T : Nat → Prop} {w : World} {b : Nat} {E : En} {m : Mc} (h : Mn S w b E m) (hs : ∀ k, S k → T k) : Mn T w b E m := by
  obtain ⟨q, O, h1, h2⟩ := h
  exact ⟨q, O, h1, fun k hk => hs k (h2 k hk)⟩
theorem Mn.chg {S T : Nat → Prop} {w w' : World} {b : Nat} {E : En} {m : Mc} (h : Mn S w b E m) (hc : Chg T w w') (hs : ∀ k, k < w.heap.size → S k → ¬ T k) : Mn S w' b E m := by
  obtain ⟨q, O, h1, h2⟩ := h
  exact ⟨q, O, h1.chg hc fun k hk hn => hs k hk (h2 k hn), h2⟩
theorem Mn.ch0 {S : Nat → Prop} {w w' : World} {b : Nat} {E : En} {m : Mc} (h : Mn S w b E m) (hc : Ch [] w w') : Mn S w' b E m := h.chg hc fun _ _ _ h => h
theorem Mn.step {S : Nat → Prop} {w : World} {b : Nat} {E : En} {m : Mc} {K : Bool → World → Prop} (h : Mn S w b E m) (hS : Sound E) (hI : Iv E m)
    (hK : (m.dn = true → K false w) ∧ (m.dn = false → ∀ w', Mn (fun k => S k ∨ w.heap.size ≤ k) w' b E (Vm.step E m) → Chg S w w' → K true w')) : c_vm_Machine_Step (some ⟨b, 0, none⟩) w K := by
  obtain ⟨q, O, h1, h2⟩ := h
  refine step_ok h1 hS hI ⟨hK.1, fun hd q' O' w' h' hp => hK.2 hd w' ⟨q', O', h', fun k hk => ?_⟩ (hp.2.mono fun i _ hi => h2 i hi)⟩
  rcases Nat.lt_or_ge k w.heap.size with hlt | hge
  · left; exact h2 k (by rw [← hp.1 k hlt]; exact hk)
  · exact .inr hge
set_option maxRecDepth 20000 in
set_option maxHeartbeats 4000000 in
theorem vmnew_ok {E : En} {s sa sr : Slc} {w : World} {K : Option Addr → Int → World → Prop} (hs : RdC w s E.is) (hsn : s.a = none → s.l = 0 ∧ s.c = 0) (ha : RdQ w 1 sa (Is .i64 E.args)) (han : sa.a = none → sa.l = 0 ∧ sa.c = 0) (hr : RdQ w 2 sr (flatR E.rs)) (hrn : sr.a = none → sr.l = 0 ∧ sr.c = 0) (hl : E.is.length ≤ 8800000000000)
    (hK : (newE E ≠ 0 → ∀ w', Ch [] w w' → K none (newE E) w') ∧ (Sound E → ∀ k w', Mn (fun i => w.heap.size ≤ i) w' k E (mc0 E) → Ch [] w w' → K (some ⟨k, 0, none⟩) 0 w')) : c_vm_New E.a E.b E.c E.d s sa sr w K := by
  refine sim_vm_New ?_
  unfold sh_vm_New
  have la : sa.l = E.args.length := by have := ha.len; rw [Is_length] at this; omega
  have lr : sr.l = E.rs.length := by have := hr.len; rw [flatR_length] at this; omega
  refine newB fun k1 w1 hc1 hb1 hk1 hs1 => ?_
  refine ldPr (s := s) hb1 ?_
  refine verify_ok (hs.ch0 hc1) hl fun w2 hc2 => ?_
  replace hb1 := hb1.ch0 hc2
  replace hc2 := hc1.tr hc2
  have hk1' := hb1.below
  refine iteB_ne (fun h => ?_) (fun h => ?_)
  · have e : newE E = (depths E.a E.b E.c E.d E.is).2 := by unfold newE; rw [if_pos h]
    rw [← e]
    exact hK.1 (by rw [e]; exact h) w2 hc2
  refine ldI_b (o := 0) hb1 rfl ?_
  have bad : ((E.args.length : Int) ≠ E.a ∨ (E.rs.length : Int) ≠ E.b) → K none 50 w2 := fun hb => by
    have e : newE E = 50 := by unfold newE; rw [if_neg (fun hn => hn h), if_pos hb]
    rw [← e]
    exact hK.1 (by rw [e]; decide) w2 hc2
  refine iteB_ne (fun h2 => bad (.inl (by omega))) (fun h2 => ?_)
  refine ldI_b hb1 rfl ?_
  refine iteB_ne (fun h3 => bad (.inr (by omega))) (fun h3 => ?_)
  have hS : Sound E := ⟨h, by omega, by omega⟩
  replace hK := hK.2 hS
  have rng := hS.rng
  refine ldS_b (s := s) hb1 rfl ?_
  have ls := hs.len
  refine cloneI_ok (hs.rdQ.ch0 hc2) hsn (by omega) fun sc w3 hoc hc3 hgc => ?_
  refine stB (hb1.ch0 hc3) (by simp) fun w4 hc4 hb4 hs4 => ?_
  replace hb4 : Blk w4 k1 #[.int .i64 E.a, .int .i64 E.b, .int .i64 E.c, .int .i64 E.d, .slice sc.a sc.l sc.c] _ := hb4
  have hz2 := hc2.size
  have hz3 := hc3.size
  replace hoc := hoc.ch hc4 fun k hk => nin1' (by have := hgc k hk; omega)
  have d4 : Ch [] w4 w4.drew := Ch.drew _
  replace hb4 := hb4.ch0 d4
  replace hoc := hoc.ch0 d4
  have hc04 : Ch [] w w4.drew := ((hc2.tr hc3).trN hc4 (by omega)).tr d4
  refine ldPr (s := sc) hb4 ?_
  refine clone64_ok (ha.ch0 hc04) han (by omega) fun sA w5 hoa hc5 hga => ?_
  replace hb4 := hb4.ch0 hc5
  replace hoc := hoc.ch0 hc5
  have cell : ∀ {w' : World}, Blk w' k1 #[.int .i64 E.a, .int .i64 E.b, .int .i64 E.c, .int .i64 E.d, .slice sc.a sc.l sc.c] 50 → w'.cell? ⟨k1, 0, none⟩ = some (.int .i64 E.a) ∧ w'.cell? ((⟨k1, 0, none⟩ : Addr).add 1) = some (.int .i64 E.b) ∧ w'.cell? ((⟨k1, 0, none⟩ : Addr).add 2) = some (.int .i64 E.c) ∧ w'.cell? ((⟨k1, 0, none⟩ : Addr).add 3) = some (.int .i64 E.d) ∧ w'.cell? ((⟨k1, 0, none⟩ : Addr).add 4) = some (.slice sc.a sc.l sc.c) ∧ True := fun hb => by
    refine ⟨?_, ?_, ?_, ?_, ?_, trivial⟩
    · rw [hb.cell]; rfl
    all_goals rw [add_mk, Nat.zero_add, hb.cell]; rfl
  refine ⟨cell hb4, ?_⟩
  refine cloneC_ok (hr.ch0 (hc04.tr hc5)) hrn (by omega) fun sR w6 hor hc6 hgr => ?_
  replace hb4 := hb4.ch0 hc6
  replace hoc := hoc.ch0 hc6
  replace hoa := hoa.ch0 hc6
  refine ⟨cell hb4, ?_⟩
  refine pairs_ok fun kf w7 hF hc7 => ?_
  replace hb4 := hb4.ch0 hc7
  replace hoc := hoc.ch0 hc7
  replace hoa := hoa.ch0 hc7
  replace hor := hor.ch0 hc7
  refine ⟨cell hb4, ?_⟩
  have hzd : w4.drew.heap.size = w4.heap.size := rfl
  have hz4 := hc4.size
  have hz5 := hc5.size
  have hz6 := hc6.size
  have hz7 := hc7.size
  refine newB fun kb w8 hc8 hb8 hkb hs8 => ?_
  have hM : MmX w8 kb E ⟨[], [], [], [], 0, 0, false, 0, 0⟩ ⟨sc, sA, sR, ⟨none, 0, 0⟩, ⟨none, 0, 0⟩, ⟨none, 0, 0⟩, ⟨none, 0, 0⟩, fnAt kf⟩ (fun i => if w2.heap.size ≤ i then (if i = kb then 1 else 6) else 0) := by
    have six : ∀ {t : Slc} {e : TypeId} {z : Nat} {vs : List Value} {n : Nat}, Own w7 e z t vs → w2.heap.size ≤ n → Ge n (blkOf t) → ∀ k, blkOf t = some k → (if w2.heap.size ≤ k then (if k = kb then 1 else 6) else 0) = 6 := fun ho hn hg k hk => by
      have h1 := ho.lt k hk
      have h2 := hg k hk
      rw [if_pos (by omega), if_neg (by omega)]
    refine ⟨hb8, hoc.ch0 hc8, hoa.ch0 hc8, hor.ch0 hc8, Own.nil _ _ _, Own.nil _ _ _, Own.nil _ _ _, Own.nil _ _ _, fun op hop => ?_, ?_, six hoc (Nat.le_refl _) hgc, six hoa (by omega) hga, six hor (by omega) hgr, fun k hk => (by cases hk), fun k hk => (by cases hk), fun k hk => (by cases hk), fun k hk => (by cases hk)⟩
    · obtain ⟨k', e, hb', hk'⟩ := (hF op hop).2.e
      refine ⟨k', e, hb'.ch0 hc8, ?_⟩
      have h6 : w6.heap.size ≤ k' := by
        rcases Nat.lt_or_ge k' w6.heap.size with hlt | hge
        · rw [if_neg (by omega)] at hk'; cases hk'
        · exact hge
      have := hb'.lt
      rw [if_pos (by omega), if_neg (by omega)]
    · rw [if_pos (by omega), if_pos rfl]
  have hO1 : ∀ k, (if w2.heap.size ≤ k then (if k = kb then 1 else 6) else 0) ≠ 0 → w2.heap.size ≤ k := fun k hk => by
    rcases Nat.lt_or_ge k w2.heap.size with hlt | hge
    · rw [if_neg (by omega)] at hk; exact absurd rfl hk
    · exact hge
  have hOk : (if w2.heap.size ≤ k1 then (if k1 = kb then 1 else 6) else 0) = 0 := if_neg (by omega)
  generalize hO : (fun i => if w2.heap.size ≤ i then (if i = kb then 1 else 6) else 0) = O1 at hM
  have hO1 : ∀ k, O1 k ≠ 0 → w2.heap.size ≤ k := by rw [← hO]; exact hO1
  have hOk : O1 k1 = 0 := by rw [← hO]; exact hOk
  replace hb4 := hb4.ch0 hc8
  refine ldI_b (n := E.d) hb4 rfl ?_
  have ed : E.d = ((E.d.toNat : Nat) : Int) := by omega
  have ec : E.c = ((E.c.toNat : Nat) : Int) := by omega
  rw [ed]
  refine mkP_intro TI6 (by omega) (by omega) fun w9 (hc9 : Ch [] w8 w9) hb9 hs9 => ?_
  rw [madeI] at hb9
  have ho9 := Own.new hb9 (by simp [maxLen]; omega)
  simp only [List.size_toArray, Is_length, List.length_replicate, List.toList_toArray] at ho9
  simp only [nnP_some]
  refine MmX.lok (s' := ⟨some ⟨w8.heap.size, 0, none⟩, E.d.toNat, E.d.toNat⟩) (lo' := zs E.d) ⟨hM, Chg.mono hc9 fun _ _ h => h.elim, hM.ol, fun k hk => by cases hk; exact .inr (Nat.le_refl _)⟩ ho9 fun O2 w10 h10 p10 => ?_
  obtain ⟨hb10, z10⟩ := p10.tmp hb4 hOk
  refine ldI_b (n := E.c) hb10 rfl ?_
  rw [ec]
  refine mkP_intro TPu (by omega) (by omega) fun w11 (hc11 : Ch [] w10 w11) hb11 hs11 => ?_
  have ho11 : Own w11 139 2 ⟨some ⟨w10.heap.size, 0, none⟩, E.c.toNat, E.c.toNat⟩ (flat (zp E.c)) := by
    refine ⟨by rw [flat_length]; simp [zp], .inr ⟨_, E.c.toNat, _, rfl, Nat.zero_le _, hb11, Nat.le_refl _, by unfold maxLen; omega, by simp [madeCells], ?_⟩⟩
    rw [made2]
    unfold zp
    rw [flat_rep, List.take_of_length_le (by simp)]
  refine MmX.puk (s' := ⟨some ⟨w10.heap.size, 0, none⟩, E.c.toNat, E.c.toNat⟩) (pu' := zp E.c) ⟨h10, Chg.mono hc11 fun _ _ h => h.elim, h10.op, fun k hk => by cases hk; exact .inr (Nat.le_refl _)⟩ ho11 fun O3 w12 h12 p12 => ?_
  obtain ⟨hb12, z12⟩ := p12.tmp hb10 z10
  refine ldS_b (s := sc) hb12 rfl ?_
  have lc : sc.l = E.is.length := by have := hoc.len; rw [flat_length] at this; omega
  have eb : ((sc.l : Int) == 0) = (E.is.length == 0) := by rw [lc, Bool.eq_iff_iff]; simp
  rw [eb]
  refine MmX.put (m' := mc0 E) h12 (by decide) rfl rfl rfl rfl rfl fun w13 h13 p13 => ?_
  have p := p10.tr (p12.tr p13)
  have hc08 : Ch [] w w8 := (((hc04.tr hc5).tr hc6).tr hc7).tr hc8
  refine hK kb w13 ⟨_, O3, h13, fun k hk => ?_⟩ (Chg.step hc08 p.2 fun i hi e => ?_)
  · rcases Nat.lt_or_ge k w8.heap.size with hlt | hge
    · have := hO1 k (by rw [← p.1 k hlt]; exact hk)
      omega
    · have := hc08.size; omega
  · have := hO1 i e
    omega
end Go.Proofs.YtlnhecbgjjglfaaGreat
