/- RunsB: the law BatchRuns: what is accepted runs. -/
import Derived.Test.YtlnhecbgjjglfaaGreatWork
import Derived.Test.YtlnhecbgjjglfaaGreatLibB
import Derived.Test.YtlnhecbgjjglfaaGreatVmR
set_option linter.unusedVariables false
set_option linter.unusedSimpArgs false
namespace Go.Lang
theorem ckL_ok : ∀ {l : List Pc} {pre : List ByteArray} {i : Nat}, (ckL pre i l).2 = 0 → ∀ x ∈ l, nameOk x.name = true ∧ (pgD x.p).2 = 0
  | [], pre, i, h, x, hx => by cases hx
  | y :: r, pre, i, h, x, hx => by
    simp only [ckL] at h
    split at h
    · simp at h
    · rename_i h1
      split at h
      · rename_i h2; exact absurd h h2
      · rename_i h2
        rcases List.mem_cons.1 hx with rfl | hx
        · refine ⟨?_, by omega⟩
          cases hn : nameOk x.name with
          | true => rfl
          | false => rw [hn] at h1; simp at h1
        · exact ckL_ok h x hx
theorem checkT_ok {ps : List Pc} (h : (checkT ps).2 = 0) : ps.length ≤ 64 ∧ ∀ x ∈ ps, nameOk x.name = true ∧ (pgD x.p).2 = 0 := by
  unfold checkT at h
  split at h
  · simp at h
  · exact ⟨by omega, ckL_ok h⟩
end Go.Lang
namespace Go.Pl
open Go Go.Sh Go.RowKit Go.Lang
/-- A library that came in, all that is looked at of it. -/
structure RdP (w : World) (s : Slc) (ps : List Pc) : Prop where
  rdL : RdL w s ps
  at_ : ∀ i (hi : i < ps.length), ∃ ad cs, PcAt w ad ps[i] cs ∧ (cs.a = none → cs.l = 0 ∧ cs.c = 0) ∧ ∀ (i' : Int) (K : Addr → Prop), i' = (i : Int) → K ad → idxP s.a s.l i' 6 K
def lpP (x : Pc) : LpM := ⟨x.name.size, x.p.a, x.p.b, x.p.c, x.p.d, x.p.l.length⟩
theorem chkT_zero {g : Txm → Int} {xs : List Txm} (h : (chkT g xs).2 = 0) : ∀ x ∈ xs, g x = 0 := by
  unfold chkT at h
  split at h
  · cases h
  · exact firstT_zero h
/-- What is sound for a library of programs. -/
theorem sound_of {ps : List Pc} {x : Txm} (h : soundT (ps.map lpP) x = 0) : ∃ (i : Nat) (hi : i < ps.length), x.proc = (i : Int) ∧ (x.args.length : Int) = ps[i].p.a ∧ (x.reads.length : Int) = ps[i].p.b ∧ (x.writes.length : Int) = ps[i].p.c ∧ rises x.reads = true ∧ rises x.writes = true := by
  unfold soundT at h
  rw [List.getElem?_map] at h
  cases hp : ps[x.proc.toNat]? with
  | none => rw [hp] at h; cases h
  | some p =>
    rw [hp] at h
    simp only [Option.map_some] at h
    have hi := (List.getElem?_eq_some_iff.1 hp).1
    have he := (List.getElem?_eq_some_iff.1 hp).2
    by_cases h1 : x.proc < 0
    · rw [if_pos h1] at h; cases h
    rw [if_neg h1] at h
    by_cases h2 : (x.args.length : Int) ≠ (lpP p).a
    · rw [if_pos h2] at h; cases h
    rw [if_neg h2] at h
    by_cases h3 : (x.reads.length : Int) ≠ (lpP p).b
    · rw [if_pos h3] at h; cases h
    rw [if_neg h3] at h
    by_cases h4 : (x.writes.length : Int) ≠ (lpP p).c
    · rw [if_pos h4] at h; cases h
    rw [if_neg h4] at h
    have h2 := Decidable.not_not.1 h2
    have h3 := Decidable.not_not.1 h3
    have h4 := Decidable.not_not.1 h4
    have hr : rises x.reads = true ∧ rises x.writes = true := by
      unfold formT at h
      split at h
      · cases h
      split at h
      · cases h
      split at h
      · cases h
      split at h
      · cases h
      split at h
      · assumption
      · cases h
    exact ⟨x.proc.toNat, hi, by omega, by rw [he]; exact h2, by rw [he]; exact h3, by rw [he]; exact h4, hr⟩
theorem flatR_rep (t : Bool) (v : Int) (n : Nat) : Vm.flatR (List.replicate (n + 1) (t, v)) = Vm.flatR (List.replicate n (t, v)) ++ [.bool t, .int .i64 v] := by
  rw [List.replicate_succ', Vm.flatR, List.flatMap_append]; rfl
end Go.Pl
namespace Go.Proofs.YtlnhecbgjjglfaaGreat
open Go Go.Sh Go.Pl Go.RowKit Go.Num Go.Gt Go.Lang Go.Vm
theorem wghB_take {xs : List Txm} {i : Nat} (h : i < xs.length) : wgh (xs.take (i + 1)) = wgh (xs.take i) + xs[i].writes.length := by
  unfold wgh
  rw [List.take_succ_eq_append_getElem h, List.map_append, List.sum_append]
  simp
theorem wghB_le {xs : List Txm} (h : ∀ x ∈ xs, x.writes.length ≤ 16) : wgh xs ≤ 16 * xs.length := by
  unfold wgh
  induction xs with
  | nil => simp
  | cons a r ih =>
    simp only [List.map_cons, List.sum_cons, List.length_cons]
    have := h a (by simp)
    have := ih fun x hx => h x (List.mem_cons_of_mem _ hx)
    omega
def pcL (l : List (ByteArray × (Int × Int × Int × Int × Mo keysG × Unit) × Unit)) : List Pc := l.map fun m => ⟨m.1, ⟨m.2.1.1, m.2.1.2.1, m.2.1.2.2.1, m.2.1.2.2.2.1, kysOf m.2.1.2.2.2.2.1⟩⟩
def pcOf (ms : Mo libG) : List Pc := pcL ms
theorem pcL_len (l : List (ByteArray × (Int × Int × Int × Int × Mo keysG × Unit) × Unit)) : (pcL l).length = l.length := by simp [pcL]
theorem pcL_lp (l : List (ByteArray × (Int × Int × Int × Int × Mo keysG × Unit) × Unit)) : lpL l = (pcL l).map lpP := by
  unfold lpL pcL
  rw [List.map_map]; rfl
theorem pcL_at {l : List (ByteArray × (Int × Int × Int × Int × Mo keysG × Unit) × Unit)} {i : Nat} {x : Pc} (h : (pcL l)[i]? = some x) : ∃ nm a b c d mi, l[i]? = some (nm, (a, b, c, d, mi, ()), ()) ∧ x = ⟨nm, ⟨a, b, c, d, kysOf mi⟩⟩ := by
  unfold pcL at h
  rw [List.getElem?_map] at h
  cases hm : l[i]? with
  | none => rw [hm] at h; cases h
  | some m =>
    rw [hm] at h
    cases h
    exact ⟨m.1, m.2.1.1, m.2.1.2.1, m.2.1.2.2.1, m.2.1.2.2.2.1, m.2.1.2.2.2.2.1, rfl, rfl⟩
theorem rep_pc {R : Nat} {w : World} {s : Slc} {ms : Mo libG} (hR : R ≤ 140737488351232) (h : Gt.Rep R w libG [.slice s.a s.l s.c] ms) : RdP w s (pcOf ms) := by
  obtain ⟨s', he, h1, h2, h3, h4, h5⟩ := h
  have he' : s = s' := by
    cases s; cases s'; simpa using he
  subst he'
  have key : ∀ (i : Nat) (x : Pc), (pcOf ms)[i]? = some x → ∃ ad cs, s.a = some ad ∧ PcAt w (ad.add (i * 6)) x cs ∧ (cs.a = none → cs.l = 0 ∧ cs.c = 0) := fun i x hx => by
    obtain ⟨nm, a, b, c, d, mi, hm, rfl⟩ := pcL_at hx
    obtain ⟨ad, es, g1, g2, g3, g4⟩ := h5 i (nm, (a, b, c, d, mi, ()), ()) hm
    obtain ⟨c1, c2, rfl, ⟨rfl, hz⟩, c3, c4, rfl, ⟨d1, d2, rfl, ⟨rfl, w1⟩, d3, d4, rfl, ⟨rfl, w2⟩, d5, d6, rfl, ⟨rfl, w3⟩, d7, d8, rfl, ⟨rfl, w4⟩, d9, d10, rfl, hins, rfl⟩, rfl⟩ := g4
    have hins' := hins
    obtain ⟨cs, rfl, _⟩ := hins
    obtain ⟨hrd, hnil, hcap⟩ := rep_keys hins'
    have e0 := g3 0 (by decide)
    have e1 := g3 1 (by decide)
    have e2 := g3 2 (by decide)
    have e3 := g3 3 (by decide)
    have e4 := g3 4 (by decide)
    have e5 := g3 5 (by decide)
    have lr := hrd.len
    have cr := hrd.cap
    dsimp only at lr hz
    exact ⟨ad, cs, g1, ⟨e0, e1, e2, e3, e4, e5, hrd, by show (kysOf mi).length ≤ _; omega, fun hn => (hnil hn).1⟩, hnil⟩
  refine ⟨⟨by rw [h1]; exact (pcL_len ms).symm, h2, fun i x hx => ?_⟩, fun i hi => ?_⟩
  · obtain ⟨ad, cs, g1, g2, _⟩ := key i x hx
    exact ⟨ad, cs, g1, g2⟩
  · obtain ⟨ad, cs, g1, g2, g3⟩ := key i (pcOf ms)[i] (by simp)
    refine ⟨_, cs, g2, g3, fun i' K hi' hK => ?_⟩
    subst hi'
    have : s.l = (pcOf ms).length := by rw [h1]; exact (pcL_len ms).symm
    exact ⟨by omega, by omega, ad, g1, by rw [Int.toNat_natCast]; exact hK⟩
theorem numK {e : Int} {w : World} {K : Int → World → Prop} (h : K e w) : c_preludelaw06_num e w K := by
  refine sim_preludelaw06_num ?_
  unfold sh_preludelaw06_num
  exact h
theorem endE {E : En} (hS : Sound E) : newE E = 0 ∧ ((runE E).pu.length : Int) = E.c ∧ (runE E).n ≤ (longest E.a E.b E.c E.d E.is).1 ∧ (longest E.a E.b E.c E.d E.is).2 = 0 ∧ (runE E).pu.length ≤ 16 := by
  have e : runE E = ⟨(endOf E).cd == 0, (endOf E).cd, (endOf E).us, (endOf E).out, (endOf E).pu, (endOf E).n⟩ := by
    unfold runE
    rw [if_pos (newE_s hS)]
    unfold efOf
    rw [(endOf_ok hS).2]
    rfl
  have hI := (endOf_ok hS).1
  have hd := (endOf_ok hS).2
  obtain ⟨u, h1, h2⟩ := (hI.fin hd).1
  have hr := hS.rng
  have hp := hI.pu
  rw [e, longest_eq hS.ok, h1]
  exact ⟨newE_s hS, hp, h2, rfl, by show (endOf E).pu.length ≤ 16; omega⟩
theorem st5 {w : World} {b : Nat} {x0 x1 x2 x3 x4 v0 v1 v2 v3 v4 : Value} {t : TypeId} {K : World → Prop} (hb : Blk w b #[x0, x1, x2, x3, x4] t) (h : ∀ w', Ch [some b] w w' → Blk w' b #[v0, v1, v2, v3, v4] t → w'.heap.size = w.heap.size → K w') :
    stP ⟨b, 0, none⟩ v0 w fun w1 => stP ((⟨b, 0, none⟩ : Addr).add 1) v1 w1 fun w2 => stP ((⟨b, 0, none⟩ : Addr).add 2) v2 w2 fun w3 => stP ((⟨b, 0, none⟩ : Addr).add 3) v3 w3 fun w4 => stP ((⟨b, 0, none⟩ : Addr).add 4) v4 w4 K := by
  refine stB (o := 0) hb (show 0 < 5 by decide) fun y1 d1 j1 z1 => stB j1 (show 1 < 5 by decide) fun y2 d2 j2 z2 => stB j2 (show 2 < 5 by decide) fun y3 d3 j3 z3 => stB j3 (show 3 < 5 by decide) fun y4 d4 j4 z4 => stB j4 (show 4 < 5 by decide) fun y5 d5 j5 z5 => ?_
  exact h y5 ((((d1.tr d2).tr d3).tr d4).tr d5) j5 (by omega)
set_option maxRecDepth 20000 in
set_option maxHeartbeats 4000000 in
theorem law_BatchRuns {s x : Slc} {ms : Mo libG} {bs : List UInt8} {t : Bool} {v : Int} {w : World} (k0 : Gt.Rep reachBytes w libG [.slice s.a s.l s.c] ms) (r1 : Rd w x (U8 bs)) (n1 : x.a = none → x.l = 0 ∧ x.c = 0) (z1 : x.c ≤ reachBytes) (w3 : (Lit.int .i64 v).wf = true)
    (hbk : bulk (.pair libG (.pair .bytes (.pair (.st (.pair .bool (.pair (.int .i64) .unit))) .unit))) (ms, bs, (t, v, ()), ()) ≤ 1048576) : c_preludelaw06_BatchRuns s x t v w fun r w' => r = true ∧ Chg Nil w w' := by
  refine sim_preludelaw06_BatchRuns ?_
  unfold sh_preludelaw06_BatchRuns
  clear hbk
  obtain ⟨hL, bigL, hll⟩ := rep_lp (Nat.le_refl _) k0
  have hP := rep_pc (Nat.le_refl _) k0
  have hre : reachBytes = 140737488351232 := rfl
  have lx : x.l = bs.length := by have := r1.len; simpa using this
  have cx := r1.cap
  have elp : lpOf ms = (pcOf ms).map lpP := pcL_lp ms
  rw [elp] at hL bigL
  generalize pcOf ms = ps at *
  clear elp k0
  refine newB fun k1 w1 hc1 hb1 hk1 hs1 => ?_
  refine partsL_ok (hL.ch0 hc1) bigL hll (by omega) fun n2 w2 hc2 hn2 => ?_
  have c02 := hc1.tr hc2
  refine iteB_dec (fun h => ⟨rfl, c02⟩) (fun h => ?_)
  clear h
  refine works_ok fun w3 hc3 => iteB_neg rfl ?_
  have c03 := c02.tr hc3
  refine check_ok (hP.rdL.ch0 c03) fun w4 hc4 => ?_
  have c04 := c03.tr hc4
  refine copyB (r1.ch0 c04) n1 (by omega) fun s5 w5 ho5 hc5 hg5 => ?_
  have c05 := c04.tr hc5
  refine accept_ok (hL.ch0 c05) ho5.rd (by omega) fun s6 v6 w6 hA hc6 => ?_
  have c06 := c05.tr hc6
  cases hA with
  | bytes k h hb => dsimp only [nilI]; exact iteB_pos rfl (iteB_neg rfl ⟨by simp, c06⟩)
  | tx k h h2 hb => dsimp only [nilI]; exact iteB_pos rfl (iteB_neg rfl ⟨by simp, c06⟩)
  | ok _ ts h h2 hD he =>
    dsimp only [nilI]
    refine iteB_neg rfl ?_
    refine numK ?_
    refine iteB_ne (fun hne => iteB_pos rfl ⟨rfl, c06⟩) fun h0 => ?_
    obtain ⟨hn64, hall⟩ := checkT_ok h0
    have hr := hD.rdB
    rw [he] at hr
    have few : Few (decB bs).1 := ⟨by have := (decB_ok bs).1; omega, few_of⟩
    have hdk := decB_ok bs
    have hz := chkT_zero h2
    have henc := encT_dec h
    generalize (decB bs).1 = xs at *
    have c16 := (((hc2.tr hc3).tr hc4).tr hc5).tr hc6
    refine lent_ok hr (fun hn => (hD.own.none0 hn).1) few fun s7 w7 hl7 hnil hc7 => ?_
    refine benc_ok hl7.rdB (fun y hy => (hdk.2 y hy).2.a) fun s8 w8 ho8 hc8 hg8 hl8 hn8 => numK ?_
    rw [henc] at ho8 ⊢
    dsimp only at ho8 ⊢
    refine iteB_neg rfl ?_
    have c68 := hc7.tr hc8
    refine lsame_ok ho8.rd (r1.ch0 (c06.tr c68)) (by omega) fun w9 hc9 => ?_
    rw [decide_eq_true rfl]
    refine iteB_neg rfl ?_
    have c69 := c68.tr hc9
    refine writes_ok (hr.ch0 c69) few fun s10 rows w10 hS hrl hc10 => ?_
    have c610 := c69.tr hc10
    have ls10 : s10.l = xs.length := by
      have h1 := hS.own.len
      have h2 := hS.len
      simp only [List.length_map, Nat.mul_one, setsV] at h1 h2
      omega
    have ls6 : s6.l = xs.length := hr.len
    refine iteB_ne (fun hne => absurd (by omega) hne) fun _ => ?_
    have hwl : ∀ y ∈ xs, y.writes.length ≤ 16 := fun y hy => (hdk.2 y hy).1.w
    refine loopP_inv (fun st w' => ∃ i : Nat, st.2.1 = (i : Int) ∧ st.1 = (wgh (xs.take i) : Int) ∧ i ≤ xs.length ∧ Ch [] w6 w') (fun st _ => xs.length - st.2.1.toNat) ⟨0, rfl, rfl, Nat.zero_le _, c610⟩ ?_
    rintro ⟨n0, i0, u⟩ w11 next ⟨i, rfl, rfl, hi, hc11⟩ hnext
    dsimp only
    refine iteB_dec (fun hlt' => ?_) fun hge => ?_
    · have hlt : i < xs.length := by omega
      obtain ⟨ad, ag, rs, ws, hT, hidx⟩ := hr.at' hlt
      have hmem : xs[i] ∈ xs := List.getElem_mem hlt
      obtain ⟨j, hj, ep, ea, er, ew, hrr, hrw⟩ := sound_of (hz _ hmem)
      have fx := few.2 _ hmem
      have fw := hwl _ hmem
      have hTk := (hdk.2 _ hmem).1
      have ls := hP.rdL.len
      have hT11 := hT.ch0 hc11
      refine hidx _ _ rfl (ldI_of hT11.c0 ?_)
      refine iteB_neg (decide_eq_false (by omega)) ?_
      refine hidx _ _ rfl (ldI_of hT11.c0 ?_)
      refine iteB_neg (decide_eq_false (by omega)) ?_
      refine hidx _ _ rfl (ldS_of hT11.c2 ?_)
      refine rises_ok hT11.fr (by omega) fun w12 hc12 => ?_
      rw [hrr]
      refine iteB_neg rfl ?_
      have c612 := hc11.tr hc12
      have hT12 := hT.ch0 c612
      refine hidx _ _ rfl (ldS_of hT12.c3 ?_)
      refine rises_ok hT12.fw (by omega) fun w13 hc13 => ?_
      rw [hrw]
      refine iteB_neg rfl ?_
      have c613 := c612.tr hc13
      have hT13 := hT.ch0 c613
      refine hidx _ _ rfl (ldI_of hT13.c0 ?_)
      obtain ⟨pd, cs, hpc, hcn, hpx⟩ := hP.at_ j hj
      have c013 := c06.tr c613
      refine hpx _ _ ep ?_
      refine ldPc (hpc.ch0 c013) ?_
      have hsz := hall ps[j] (List.getElem_mem hj)
      have hpgd : (pgD ps[j].p).2 = 0 := hsz.2
      have few8 := hpc.few
      generalize ps[j] = q at *
      refine newB fun k14 w14 hc14 hb14 hk14 hs14 => st5 hb14 fun w15 hc15 hb15 hs15 => ?_
      have c1315 : Ch [] w13 w15 := hc14.trN hc15 (by omega)
      have c615 := c613.tr c1315
      have b15 := hb1.ch0 (c16.tr c615)
      have lrs : rs.l = xs[i].reads.length := hT.fr.len
      refine loopP_inv (fun st w' => ∃ m : Nat, st.2.1 = (m : Int) ∧ m ≤ xs[i].reads.length ∧ Own w' 25 2 st.1 (flatR (List.replicate m (t, v))) ∧ Ge w15.heap.size (blkOf st.1) ∧ Ch [] w15 w') (fun st _ => xs[i].reads.length - st.2.1.toNat)
        ⟨0, rfl, Nat.zero_le _, Own.nil _ _ _, fun k hk => by (cases hk), Ch.refl _ _⟩ ?_
      rintro ⟨sc, m0, u⟩ w16 next16 ⟨m, rfl, hm, hoc, hgc, hc16⟩ hnext16
      dsimp only at hoc hgc ⊢
      have c616 := c615.tr hc16
      have hT16 := hT.ch0 c616
      refine hidx _ _ rfl (ldS_of hT16.c2 ?_)
      have lsc : sc.l = m := by have := hoc.len; rw [flatR_length, List.length_replicate] at this; omega
      refine iteB_dec (fun hm2 => ?_) fun hm2 => ?_
      · have b16 := b15.ch0 hc16
        refine ldB_b (o := 0) (s := t) b16 rfl (ldI_b (n := v) b16 rfl ?_)
        refine apB TCe (cells := #[.bool t, .int .i64 v]) rfl (by simp; exact ⟨rfl, rfl⟩) hoc (by omega) (by omega) fun s' w17 ho17 hl17 hg17 => ?_
        obtain ⟨g1, g2⟩ := hg17.ch
        rw [wrap_i64 (by omega)]
        refine hnext16 _ _ ⟨m + 1, by simp, by omega, ?_, fun k hk => ?_, hc16.trO g1 hgc⟩ (by simp; omega)
        · rw [flatR_rep]; exact ho17
        · rcases g2 k hk with e | e
          · exact hgc k e
          · have := hc16.size; omega
      · have hme : m = xs[i].reads.length := by omega
        clear hnext16 hm2 hm
        subst hme
        have d16 : Ch [] w16 w16.drew := Ch.drew _
        have hb16 := (hb15.ch0 hc16).ch0 d16
        have c616d := c616.tr d16
        refine ldI_b (o := 0) hb16 rfl (ldI_b hb16 rfl (ldI_b hb16 rfl (ldI_b hb16 rfl (ldS_b (s := cs) hb16 rfl ?_))))
        refine hidx _ _ rfl (ldS_of (hT.ch0 c616d).c1 ?_)
        let E : En := ⟨q.p.a, q.p.b, q.p.c, q.p.d, q.p.l, xs[i].args, List.replicate xs[i].reads.length (t, v)⟩
        have hS : Sound E := ⟨hpgd, ea, by show ((List.replicate xs[i].reads.length (t, v)).length : Int) = q.p.b; rw [List.length_replicate]; exact er⟩
        obtain ⟨x1, x2, x3, x4, x5⟩ := endE hS
        have x2 : ((runE E).pu.length : Int) = q.p.c := x2
        -- what is run
        have run : ∀ {v0 : World} {K : Bool → Int → Int → Slc → Slc → Int → Int → World → Prop}, Ch [] w16.drew v0 → (∀ so sp w', EfM v0.heap.size w' so sp (runE E) → Ch [] v0 w' → K (runE E).t (runE E).cd (runE E).us so sp (runE E).n 0 w') → c_vm_Run q.p.a q.p.b q.p.c q.p.d cs ag sc v0 K := fun hv hK => by
          have hoc' := (hoc.ch0 d16).ch0 hv
          have hT' := hT.ch0 (c616d.tr hv)
          have hp' := hpc.ch0 (c06.tr (c616d.tr hv))
          exact run_ok (E := E) hp'.rd hcn hT'.fa.rdQ hT.na hoc'.rdQ (fun hn => hoc'.none0 hn) (by show q.p.l.length ≤ _; omega) (by rw [x1]; exact hK)
        -- what is asked of it
        have rest : ∀ {y : World} {k : Nat} {so sp : Slc} {ty : TypeId}, Ch [] w16.drew y → Blk y k (efC (runE E) so sp) ty → sp.l = (runE E).pu.length →
            ldI .i64 ⟨k14, 0, none⟩ y fun n101 => ldI .i64 ((⟨k14, 0, none⟩ : Addr).add 1) y fun n102 => ldI .i64 ((⟨k14, 0, none⟩ : Addr).add 2) y fun n103 => ldI .i64 ((⟨k14, 0, none⟩ : Addr).add 3) y fun n104 => ldS ((⟨k14, 0, none⟩ : Addr).add 4) y fun s105 => c_lang_Longest n101 n102 n103 n104 s105 y fun r106 r107 w108 => c_preludelaw06_num 0 w108.drew fun r109 w110 => iteB ((r109 : Int) != 0)
              ((fun r w' => r = true ∧ Chg Nil w w') false w110)
              (c_preludelaw06_num r107 w110 fun r111 w112 => iteB ((r111 : Int) != 0)
              ((fun r w' => r = true ∧ Chg Nil w w') false w112)
              (ldS ((⟨k, 0, none⟩ : Addr).add 4) w112 fun s113 => idxP s6.a s6.l (i : Int) 4 fun a114 => ldS (a114.add 3) w112 fun s115 => iteB (((s113.l : Int) : Int) != (s115.l : Int))
              ((fun r w' => r = true ∧ Chg Nil w w') false w112)
              (ldI .i64 ((⟨k, 0, none⟩ : Addr).add 5) w112 fun n116 => iteB (decide ((n116 : Int) > r106))
              ((fun r w' => r = true ∧ Chg Nil w w') false w112)
              (idxP s6.a s6.l (i : Int) 4 fun a117 => ldS (a117.add 3) w112 fun s118 => next ((IntKind.i64.wrap ((wgh (xs.take i) : Int) + (s118.l : Int))), (IntKind.i64.wrap ((i : Int) + 1)), ()) w112)))) := fun {y k so sp ty} hy hbk hsp => by
          have hby := hb16.ch0 hy
          have c6y := c616d.tr hy
          refine ldI_b (o := 0) hby rfl (ldI_b hby rfl (ldI_b hby rfl (ldI_b hby rfl (ldS_b (s := cs) hby rfl ?_))))
          refine longest_ok (hpc.ch0 (c06.tr c6y)).rd (by omega) fun y2 hy2 => numK ?_
          refine iteB_neg rfl (numK ?_)
          have x4' : (longest q.p.a q.p.b q.p.c q.p.d q.p.l).2 = 0 := x4
          have x3' : (runE E).n ≤ (longest q.p.a q.p.b q.p.c q.p.d q.p.l).1 := x3
          rw [x4']
          refine iteB_neg rfl ?_
          have dy : Ch [] y y2.drew := hy2.tr (Ch.drew _)
          have hbk2 := hbk.ch0 dy
          have hTy := hT.ch0 (c6y.tr dy)
          refine ldS_b (s := sp) hbk2 rfl ?_
          refine hidx _ _ rfl (ldS_of hTy.c3 ?_)
          have lws : ws.l = xs[i].writes.length := hT.fw.len
          refine iteB_ne (fun hne => absurd (by omega) hne) fun _ => ?_
          refine ldI_b (n := (runE E).n) hbk2 rfl ?_
          refine iteB_neg (decide_eq_false (by omega)) ?_
          refine hidx _ _ rfl (ldS_of hTy.c3 ?_)
          have hw1 := wghB_le (xs := xs.take i) fun y hy => hwl y (List.mem_of_mem_take hy)
          rw [List.length_take] at hw1
          have hw2 := wghB_take hlt
          have f1 := few.1
          rw [wrap_i64 (by omega), wrap_i64 (by omega)]
          refine hnext _ _ ⟨i + 1, by simp, ?_, hlt, c6y.tr dy⟩ (by simp; omega)
          dsimp only
          rw [hw2, lws]; simp
        have fin : ∀ {y : World} {so sp : Slc} {n : Nat}, EfM n y so sp (runE E) → sp.l = (runE E).pu.length := fun hE => by
          have := hE.pu.len
          rw [flat_length] at this; omega
        refine ⟨run (Ch.refl _ _) fun so sp y1 hE hy1 => ?_, ?_⟩
        · refine newB fun k17 y2 hy2 hb17 hk17 hs17 => st6n hb17 fun y3 hy3 hb18 hs18 => ?_
          replace hb18 : Blk y3 k17 (efC (runE E) so sp) _ := hb18
          exact rest (hy1.tr (hy2.trN hy3 (by omega))) hb18 (fin hE)
        · refine newB fun k17 y2 hy2 hb17 hk17 hs17 => ⟨?_, ⟨?_, ?_, ?_, ?_, ?_, trivial⟩, ?_⟩
          · exact (hT.ch0 (c616d.tr hy2)).c1
          · rw [(hb16.ch0 hy2).cell]; rfl
          · rw [add_mk, Nat.zero_add, (hb16.ch0 hy2).cell]; rfl
          · rw [add_mk, Nat.zero_add, (hb16.ch0 hy2).cell]; rfl
          · rw [add_mk, Nat.zero_add, (hb16.ch0 hy2).cell]; rfl
          · rw [add_mk, Nat.zero_add, (hb16.ch0 hy2).cell]; rfl
          · refine run hy2 fun so sp y3 hE hy3 => ?_
            refine st6n (hb17.ch0 hy3) fun y4 hy4 hb18 hs18 => ?_
            replace hb18 : Blk y4 k17 (efC (runE E) so sp) _ := hb18
            refine rest ((hy2.tr hy3).trN hy4 ?_) hb18 (fin hE)
            omega
    · have hie : i = xs.length := by omega
      subst hie
      rw [List.take_length]
      refine weight_ok (hr.ch0 hc11) few fun w12 hc12 => ⟨by simp, (c06.tr hc11).tr hc12⟩
end Go.Proofs.YtlnhecbgjjglfaaGreat
