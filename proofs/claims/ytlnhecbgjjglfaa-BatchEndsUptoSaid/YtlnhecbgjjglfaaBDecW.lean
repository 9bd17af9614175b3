/- BDecW: the law BatchDecodes. -/
import Derived.Test.YtlnhecbgjjglfaaBDecL
import Derived.Test.YtlnhecbgjjglfaaDecF
import Derived.Test.YtlnhecbgjjglfaaWghD
set_option linter.unusedVariables false
set_option linter.unusedSimpArgs false
namespace Go.Proofs.Ytlnhecbgjjglfaa
open Go Go.Sh Go.Pl Go.RowKit Go.Num Go.Gt
/-- A copy of some bytes, in new memory. -/
theorem copyB {x : Slc} {bs : List UInt8} {w : World} {K : Slc → World → Prop} (hx : Rd w x (U8 bs)) (hxn : x.a = none → x.l = 0 ∧ x.c = 0) (hl : bs.length ≤ 140737488351232)
    (hK : ∀ s w', Own w' 5 1 s (U8 bs) → Ch [] w w' → Ge w.heap.size (blkOf s) → K s w') :
    newP #[] 5 w fun a1 w2 => apP Try.prog #[50, 50] 50 [.slice (some a1) 0 0, .slice x.a x.l x.c] w2 K := by
  refine newB fun k w1 hc1 hb1 hk1 hs1 => ?_
  have lx := hx.len
  rw [U8_length] at lx
  have hown : Own w1 5 1 ⟨some ⟨k, 0, none⟩, 0, 0⟩ [] := ⟨by simp, .inr ⟨k, 0, #[], rfl, Nat.zero_le _, hb1, Nat.le_refl _, by unfold maxLen; omega, by simp, by simp⟩⟩
  refine apO TU8 (s := ⟨some ⟨k, 0, none⟩, 0, 0⟩) hown (hx.ch0 hc1) hxn (U8_one _) (by simp only []; omega) (by simp only []; omega) fun s' w2 ho hl2 hg => ?_
  obtain ⟨hc2, hf⟩ := hg.ch
  refine hK s' w2 (by simpa using ho) (hc1.trO hc2 fun j hj => by have hj : some k = some j := hj; cases hj; omega) fun j hj => ?_
  rcases hf j hj with g | g
  · have g : some k = some j := g
    cases g; omega
  · omega
theorem few_of {bs : List UInt8} : ∀ x ∈ (decB bs).1, x.args.length ≤ 1000000 ∧ x.reads.length ≤ 1000000 ∧ x.writes.length ≤ 1000000 := fun x hx => by
  have h := ((decB_ok bs).2 x hx).1
  have h1 := h.a
  have h2 := h.r
  have h3 := h.w
  omega
theorem own_l {w : World} {e : TypeId} {s : Slc} {vs : List Value} {sz : Nat} (h : Own w e sz s vs) : vs.length = s.l * sz := h.len
/-- The rows of a batch are few and short. -/
theorem DO.few {lo : Nat} {w : World} {l : Slc} {ts : List TxR} {bs : List UInt8} (h : DO lo w l ts) (he : ts.map (·.x) = (decB bs).1) : ts.length ≤ 64 ∧ l.l ≤ 64 ∧ ∀ t ∈ ts, t.ag.l ≤ 64 ∧ t.rs.l ≤ 64 ∧ t.ws.l ≤ 64 := by
  have hd := decB_ok bs
  have hlen : ts.length = (decB bs).1.length := by rw [← he]; simp
  refine ⟨by omega, by have := h.len; omega, fun t ht => ?_⟩
  have hx : t.x ∈ (decB bs).1 := by rw [← he]; exact List.mem_map_of_mem ht
  have hf := (hd.2 _ hx).1
  have r := h.row t ht
  have h1 := r.ia.len
  have h2 := r.ir.len
  have h3 := r.iw.len
  rw [Is_length] at h1
  rw [flat_length] at h2 h3
  have a1 := hf.a
  have a2 := hf.r
  have a3 := hf.w
  omega
set_option maxRecDepth 20000 in
set_option maxHeartbeats 4000000 in
theorem law_BatchDecodes {x : Slc} {bs : List UInt8} {w : World} (r0 : Rd w x (U8 bs)) (n0 : x.a = none → x.l = 0 ∧ x.c = 0) (z0 : x.c ≤ reachBytes) : c_preludelaw06_BatchDecodes x w fun r w' => r = true ∧ Chg Nil w w' := by
  refine sim_preludelaw06_BatchDecodes ?_
  unfold sh_preludelaw06_BatchDecodes
  have hre : reachBytes = 140737488351232 := rfl
  have lx := r0.len
  rw [U8_length] at lx
  have cx := r0.cap
  have hbl : bs.length ≤ 140737488351232 := by omega
  have hdk := decB_ok bs
  refine copyB r0 n0 hbl fun s1 w1 ho1 hc1 hg1 => ?_
  have l1 := U8_own ho1
  have z1 := hc1.size
  refine apB TU8 (cells := #[.int .u8 165]) rfl (fun u hu => by simp at hu; subst hu; rfl) ho1 (by omega) (by omega) fun s2 w2 ho2 hl2 hgr2 => ?_
  obtain ⟨hc2, hf2⟩ := hgr2.ch
  have hcw2 : Ch [] w w2 := hc1.trO hc2 hg1
  have ho2 : Own w2 5 1 s2 (U8 (bs ++ [165])) := by rw [U8_append]; exact ho2
  have g2 : Ge w.heap.size (blkOf s2) := fun k hk => by
    rcases hf2 k hk with g | g
    · exact hg1 k g
    · omega
  have lt2 := ho2.ltS
  have l2 : s2.l = bs.length + 1 := by omega
  have front : ∀ {w' : World} {vs : List UInt8} {K : Option Addr → Nat → Nat → Prop}, Own w' 5 1 s2 (U8 vs) → vs.length = bs.length + 1 → vs.take bs.length = bs → (∀ p, Rd w' ⟨p, bs.length, s2.c⟩ (U8 bs) → K p bs.length s2.c) → slP s2.a s2.l s2.c none (some (x.l : Int)) 1 K := fun ho hv ht hK => by
    refine ho.rd.sl (l := 0) (u := bs.length) rfl (by simp [lx]) (Nat.zero_le _) (by simp; omega) fun p hp _ => ?_
    rw [U8_part, List.drop_zero, Nat.sub_zero, ht] at hp
    rw [Nat.sub_zero, Nat.sub_zero] at *
    exact hK p hp
  refine front ho2 (by simp) (by simp) fun p hp => ?_
  refine bdec_ok hp hbl fun r3 ts3 w3 hD3 he3 hc3 => ?_
  have z3 := hc3.size
  have z2 := hcw2.size
  have hcw3 := hcw2.tr hc3
  refine rbdec_ok (r0.ch0 hcw3) (fun k hk hne => by have := r0.lt (by intro h; apply hne; cases bs with | nil => rfl | cons a b => simp [U8] at h) k hk; omega) hbl fun r4 ts4 w4 hD4 he4 hc4 => ?_
  have z4 := hc4.size
  have hcw4 := hcw3.tr hc4
  have hD34 := hD3.ch0 hc4
  have rb3 : ∀ {w' : World}, DO w2.heap.size w' r3 ts3 → RdB w' r3 (decB bs).1 := fun h => by have := h.rdB; rwa [he3] at this
  have rb4 : ∀ {w' : World}, DO w3.heap.size w' r4 ts4 → RdB w' r4 (decB bs).1 := fun h => by have := h.rdB; rwa [he4] at this
  refine sameBatch_ok (rb3 hD34) (rb4 hD4) (by omega) few_of fun w5 hc5 => iteB_neg rfl (iteB_neg (by simp) ?_)
  refine sim_preludelaw06_num ?_
  unfold sh_preludelaw06_num
  refine iteB_neg (by simp) ?_
  have hcw5 := hcw4.tr hc5
  have ho5 := ((ho2.ch0 hc3).ch0 hc4).ch0 hc5
  refine front ho5 (by simp) (by simp) fun p2 hp2 => ?_
  refine lsame_ok hp2 (r0.ch0 hcw5) (by omega) fun w6 hc6 => ?_
  rw [decide_eq_true rfl]
  refine iteB_neg rfl ?_
  have hcw6 := hcw5.tr hc6
  have ho6 := ho5.ch0 hc6
  have hD36 := (hD34.ch0 hc5).ch0 hc6
  have hD46 := (hD4.ch0 hc5).ch0 hc6
  refine U8_get ho6.rd (j := bs.length) (by omega) (by simp) ?_
  have e165 : (bs ++ [165]).getD bs.length 0 = 165 := by simp [List.getD]
  rw [e165]
  refine iteB_neg (by decide) ?_
  have z5 := hc5.size
  have z6 := hc6.size
  rw [U8_Is] at ho6
  generalize hds : (bs ++ [165]).map (fun b : UInt8 => (b.toNat : Int)) = ds0 at ho6
  have hdl : ds0.length = bs.length + 1 := by rw [← hds]; simp
  have s2b : ∀ k, blkOf s2 = some k → w.heap.size ≤ k ∧ k < w2.heap.size := fun k hk => ⟨g2 k hk, lt2 k hk⟩
  refine loopP_inv (fun st w7 => ∃ (i : Nat) (ds : List Int), st.1 = (i : Int) ∧ i ≤ bs.length + 1 ∧ ds.length = bs.length + 1 ∧ Own w7 5 1 s2 (Is .u8 ds) ∧ Ch [blkOf s2] w6 w7) (fun st _ => bs.length + 1 - st.1.toNat) ⟨0, ds0, rfl, Nat.zero_le _, hdl, ho6, Ch.refl _ _⟩ ?_
  rintro ⟨i0, u⟩ w7 next ⟨i, ds, rfl, hi, hdl, ho7, hc7⟩ hnext
  dsimp only
  refine iteB_dec (fun hh => ?_) (fun hh => ?_)
  · have hlt : i < ds.length := by omega
    refine ho7.rd.get (v := ds[i]) (by omega) (by rw [Int.toNat_natCast]; simp) ?_
    refine ho7.st1 (x := i) (by omega) rfl fun w8 ho8 hc8 hz8 => ?_
    rw [wrap_i64 (by omega)]
    refine hnext _ _ ⟨i + 1, ds.set i (bXor .u8 (IntKind.max .u8) ds[i]), by simp, by omega, by simpa using hdl, ?_, hc7.tr hc8⟩ (by simp; omega)
    have : Is .u8 (ds.set i (bXor .u8 (IntKind.max .u8) ds[i])) = (Is .u8 ds).set i (.int .u8 (bXor .u8 (IntKind.max .u8) ds[i])) := by simp [Is]
    rw [this]; exact ho8
  · have z7 := hc7.size
    have hcw7 : Ch [] w w7 := hcw6.trO hc7 g2
    have inb : ∀ k, inL [blkOf s2] k → k < w2.heap.size := fun k hk => lt2 k (show some k = blkOf s2 from hk).symm
    have hD37 := hD36.chg (show Chg (inL [blkOf s2]) w6 w7 from hc7) inb
    have hD47 := hD46.chg (show Chg (inL [blkOf s2]) w6 w7 from hc7) fun k hk => by have := inb k hk; omega
    refine copyB (r0.ch0 hcw7) n0 hbl fun s8 w8 ho8 hc8 hg8 => ?_
    refine bdec_ok ho8.rd hbl fun r9 ts9 w9 hD9 he9 hc9 => ?_
    have z8 := hc8.size
    have z9 := hc9.size
    have hcw9 := (hcw7.tr hc8).tr hc9
    have hD39 := (hD37.ch0 hc8).ch0 hc9
    have hD49 := (hD47.ch0 hc8).ch0 hc9
    have rb9 : ∀ {w' : World}, DO w8.heap.size w' r9 ts9 → RdB w' r9 (decB bs).1 := fun h => by have := h.rdB; rwa [he9] at this
    refine sameBatch_ok (rb3 hD39) (rb4 hD49) (by omega) few_of fun w10 hc10 => iteB_neg rfl ?_
    refine sameBatch_ok (rb9 (hD9.ch0 hc10)) (rb4 (hD49.ch0 hc10)) (by omega) few_of fun w11 hc11 => iteB_neg rfl ?_
    refine newB fun ks w12 hc12 hb12 hk12 hs12 => ?_
    have z10 := hc10.size
    have z11 := hc11.size
    have z12 := hc12.size
    have hcw12 := ((hcw9.tr hc10).tr hc11).tr hc12
    have hD3z := ((hD39.ch0 hc10).ch0 hc11).ch0 hc12
    have hD9z := ((hD9.ch0 hc10).ch0 hc11).ch0 hc12
    -- where the two lie
    have in3 : ∀ k, (blkOf r3 = some k ∨ ∃ t ∈ ts3, t.has k) → w2.heap.size ≤ k ∧ k < w3.heap.size := fun k hk => by
      rcases hk with hk | ⟨t, ht, hk⟩
      · exact ⟨hD3.gs k hk, hD3.own.ltS k hk⟩
      · exact hD3.lts t ht k hk
    have in9 : ∀ k, (blkOf r9 = some k ∨ ∃ t ∈ ts9, t.has k) → w8.heap.size ≤ k ∧ k < w9.heap.size := fun k hk => by
      rcases hk with hk | ⟨t, ht, hk⟩
      · exact ⟨hD9.gs k hk, hD9.own.ltS k hk⟩
      · exact hD9.lts t ht k hk
    obtain ⟨f3a, f3b, f3c⟩ := hD3.few he3
    obtain ⟨f9a, f9b, f9c⟩ := hD9.few he9
    refine batchS_ok (shf0 hb12) (fun k hk => by omega) hD3z (fun k hk hd => by have := in3 k hk; omega) ⟨by simp [emptyG], by simp [emptyG]; omega, by simp [emptyG]; omega⟩ fun D1 f1' G1 w13 h13 b13 d13 q13 e0 e1 e2 hc13 hz13 => ?_
    have hD9y : DO w8.heap.size w13 r9 ts9 := by
      have no : ∀ k, (blkOf r9 = some k ∨ ∃ t ∈ ts9, t.has k) → ¬ (k = ks ∨ (blkOf r3 = some k ∨ ∃ t ∈ ts3, t.has k) ∨ w12.heap.size ≤ k) := fun k hk hd => by
        have a := in9 k hk
        rcases hd with hd | hd | hd
        · omega
        · have := in3 k hd; omega
        · omega
      refine ⟨hD9z.own.chg hc13 fun k hk => no k (.inl hk), fun t ht => ?_, hD9z.gs, hD9z.ds, hD9z.dt⟩
      have r := hD9z.row t ht
      exact ⟨r.ia.chg hc13 fun k hk => no k (.inr ⟨t, ht, .inl hk⟩), r.ir.chg hc13 fun k hk => no k (.inr ⟨t, ht, .inr (.inl hk)⟩), r.iw.chg hc13 fun k hk => no k (.inr ⟨t, ht, .inr (.inr hk)⟩), r.ga, r.gr, r.gw, r.ar, r.aw, r.rw_⟩
    refine batchS_ok h13 b13 hD9y (fun k hk hd => by
      have a := in9 k hk
      rcases d13 k hd with hd | hd | hd
      · omega
      · have := in3 k hd; omega
      · omega) ⟨by rw [e0]; simp [emptyG], by rw [e1]; simp only [emptyG, List.nil_append, rw2_len]; omega, by rw [e2]; simp [emptyG]; omega⟩ fun D2 f2' G2 w14 h14 b14 d14 q14 e0' e1' e2' hc14 hz14 => ?_
    have old : ∀ k, D2 k → w.heap.size ≤ k := fun k hk => by
      rcases d14 k hk with hd | hd | hd
      · rcases d13 k hd with hd | hd | hd
        · omega
        · have := in3 k hd; omega
        · omega
      · have := in9 k hd; omega
      · omega
    have hcw14 : Chg Nil w w14 := ((show Chg Nil w w12 from hcw12).step hc13 fun k hk hd => by
        rcases hd with hd | hd | hd
        · omega
        · have := in3 k hd; omega
        · omega).step hc14 fun k hk hd => by
        rcases hd with hd | hd | hd
        · rcases d13 k hd with hd | hd | hd
          · omega
          · have := in3 k hd; omega
          · omega
        · have := in9 k hd; omega
        · omega
    refine apart_ok h14 b14 ?_ fun w15 hc15 => ⟨rfl, hcw14.step hc15 fun k hk hd => by
      rcases hd with hd | hd
      · have := old k hd; omega
      · have := hcw14.size; omega⟩
    intro o ho
    have ags : ∀ {ts : List TxR}, (∀ t ∈ ts, t.ag.l ≤ 64 ∧ t.rs.l ≤ 64 ∧ t.ws.l ≤ 64) → ∀ r ∈ ts.map (·.ag), r.l ≤ 1000000000 := fun h r hr => by
      obtain ⟨t, ht, rfl⟩ := List.mem_map.1 hr
      have := h t ht; omega
    have rws : ∀ {ts : List TxR}, (∀ t ∈ ts, t.ag.l ≤ 64 ∧ t.rs.l ≤ 64 ∧ t.ws.l ≤ 64) → ∀ r ∈ ts.flatMap rw2, r.l ≤ 1000000000 := fun h r hr => by
      obtain ⟨t, ht, hr⟩ := List.mem_flatMap.1 hr
      have := h t ht
      simp [rw2] at hr
      rcases hr with rfl | rfl <;> omega
    rcases (by omega : o = 0 ∨ o = 1 ∨ o = 2 ∨ o = 3 ∨ o = 4) with rfl | rfl | rfl | rfl | rfl
    · rw [e0', e0]
      refine ⟨by simp [emptyG], fun r hr => ?_⟩
      simp [emptyG] at hr
      rcases hr with rfl | rfl <;> omega
    · rw [e1', e1]
      refine ⟨by simp only [emptyG, List.nil_append, List.length_append, rw2_len]; omega, fun r hr => ?_⟩
      simp only [emptyG, List.nil_append] at hr
      rcases List.mem_append.1 hr with hr | hr
      · exact rws f3c r hr
      · exact rws f9c r hr
    · rw [e2', e2]
      refine ⟨by simp [emptyG]; omega, fun r hr => ?_⟩
      simp only [emptyG, List.nil_append] at hr
      rcases List.mem_append.1 hr with hr | hr
      · exact ags f3c r hr
      · exact ags f9c r hr
    · rw [q14 3 (by omega) (by omega) (by omega), q13 3 (by omega) (by omega) (by omega)]
      exact ⟨by simp [emptyG], fun r hr => by simp [emptyG] at hr⟩
    · rw [q14 4 (by omega) (by omega) (by omega), q13 4 (by omega) (by omega) (by omega)]
      exact ⟨by simp [emptyG], fun r hr => by simp [emptyG] at hr⟩
end Go.Proofs.Ytlnhecbgjjglfaa
