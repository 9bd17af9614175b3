/- LawS: the law CodecSeals. -/
import Derived.Test.YtmadhcoeiclalaaDoorLawC
import Derived.Test.YtmadhcoeiclalaaDoorBookE
set_option linter.unusedVariables false
set_option linter.unusedSimpArgs false
namespace Go.Rec
theorem openedAt_load (c : List UInt8) (at_ : Int) : (openedAt c at_).load.length ≤ c.length := by
  unfold openedAt
  repeat' split
  all_goals (simp [bad]; try omega)
theorem opened_load (bs : List UInt8) (at_ : Int) : (opened bs at_).load.length ≤ bs.length := by
  unfold opened
  split
  · simp [bad]
  · have := openedAt_load (bs.drop at_.toNat) at_
    rw [List.length_drop] at this
    omega
theorem sealB_few (k : UInt8) (l : List UInt8) : (sealB k l).length ≤ 16777229 := by
  unfold sealB
  split
  · rw [sealed_length]; omega
  · simp
end Go.Rec
namespace Go.Proofs.YtmadhcoeiclalaaDoor
open Go Go.Sh Go.Pl Go.RowKit Go.Crc Go.Rec
theorem bk_new {w : World} {b : Nat} (h : Blk w b #[.slice none 0 0, .slice none 0 0] 43) : Bk w b ⟨none, 0, 0⟩ ⟨none, 0, 0⟩ 0 (fun _ => ⟨none, 0, 0⟩) (fun _ => ⟨none, 0, 0⟩) (fun _ => []) :=
  ⟨h, Own.nil _ _ _, Own.nil _ _ _, fun i hi => by omega, fun i hi => by omega, ⟨fun _ => 0, fun p hp k hk => by
    rcases obj_cases hp with rfl | rfl | rfl | ⟨i, hi, rfl⟩ | ⟨i, hi, rfl⟩
    · rfl
    · cases hk
    · cases hk
    · omega
    · omega⟩, fun i hi => by omega⟩
/-- A book of so many lists; all its blocks are these lists' or lie behind H. -/
def BkE (w : World) (b H n : Nat) (ys : List Slc) : Prop := ∃ L W l c bs, Bk w b L W n l c bs ∧ ∀ k, BkF b L W n l c k → H ≤ k ∨ ∃ y, y ∈ ys ∧ blkOf y = some k
theorem putE_ok {w : World} {b H n : Nat} {ys : List Slc} {x : Slc} {xs : List UInt8} {K : World → Prop} (h : BkE w b H n ys) (hx : Own w 5 1 x (U8 xs)) (hl : xs.length ≤ 140737488351232) (hxH : ∀ k, blkOf x = some k → k < H ∧ ∀ y, y ∈ ys → blkOf y ≠ some k) (hH : H ≤ w.heap.size) (hn : n ≤ 1000000000000)
    (hK : ∀ w', BkE w' b H (n + 1) (x :: ys) → Chg (fun k => H ≤ k ∨ ∃ y, y ∈ ys ∧ blkOf y = some k) w w' → K w') : c_preludelaw01_book_put (some ⟨b, 0, none⟩) x w K := by
  obtain ⟨L, W, l, c, bs, hB, hF⟩ := h
  refine put_ok hB hx hl (fun k hk hb => ?_) hn fun L' W' c' w' hB' hc hF' => hK w' ⟨L', W', _, _, _, hB', fun k hk => ?_⟩ (hc.mono fun k _ hk => ?_)
  · have h1 := hxH k hk
    rcases hF k hb with h2 | ⟨y, hy, h2⟩
    · omega
    · exact h1.2 y hy h2
  · rcases hF' k hk with h1 | h1 | h1
    · rcases hF k h1 with h2 | ⟨y, hy, h2⟩
      · exact .inl h2
      · exact .inr ⟨y, List.mem_cons_of_mem _ hy, h2⟩
    · exact .inr ⟨x, List.mem_cons_self .., h1⟩
    · exact .inl (by omega)
  · rcases hk with h1 | h1 | h1
    · exact hF k ⟨0, by omega, by rw [h1]; rfl⟩
    · exact hF k ⟨1, by omega, h1.symm⟩
    · exact hF k ⟨2, by omega, h1.symm⟩
theorem endsE_ok {w : World} {b H n : Nat} {ys : List Slc} {K : Bool → World → Prop} (h : BkE w b H n ys) (hn : n ≤ 1000000000000) (hK : ∀ w', Chg (fun k => H ≤ k ∨ ∃ y, y ∈ ys ∧ blkOf y = some k) w w' → K true w') : c_preludelaw01_book_ends (some ⟨b, 0, none⟩) w K := by
  obtain ⟨L, W, l, c, bs, hB, hF⟩ := h
  exact ends_ok hB hn fun w' hc => hK w' (hc.mono fun k _ hk => hF k hk)
set_option maxRecDepth 20000 in
theorem law_CodecSeals {k0 at_ : Int} {sl sb : Slc} {load bs : List UInt8} {w : World} (ht : Tab w) (hk0 : (Lit.int .u8 k0).wf = true) (r1 : Rd w sl (U8 load)) (n1 : sl.a = none → sl.l = 0 ∧ sl.c = 0) (z1 : sl.c ≤ reachBytes)
    (r2 : Rd w sb (U8 bs)) (n2 : sb.a = none → sb.l = 0 ∧ sb.c = 0) (z2 : sb.c ≤ reachBytes) (hw3 : (Lit.int .i64 at_).wf = true) :
    c_preludelaw01_CodecSeals k0 sl sb at_ w fun r w' => r = true ∧ Chg Nil w w' := by
  refine sim_preludelaw01_CodecSeals ?_
  unfold sh_preludelaw01_CodecSeals
  obtain ⟨k, rfl⟩ : ∃ k : UInt8, k0 = (k.toNat : Int) := ⟨_, (Row.toU8_toNat hk0).symm⟩
  have hre : reachBytes = 140737488351232 := by decide
  have l1 := r1.len
  have l2 := r2.len
  have q1 := r1.cap
  have q2 := r2.cap
  simp only [U8_length] at l1 l2
  have t : ∀ {a b c : World}, Chg Nil a b → Chg Nil b c → Chg Nil a c := fun h k => h.step k fun _ _ h => h
  refine newP_intro fun w1 hc1 hb1 hs1 => ?_
  have hd1 : Drw w1 w1.drew := (Drw.refl w1).drew
  have hb1' := hb1.drw hd1
  refine ldI_of (n := (k.toNat : Int)) (by rw [hb1'.cell]; rfl) ?_
  refine ldS_of (s := sl) (by rw [add_mk, hb1'.cell]; rfl) ?_
  refine ldS_of (s := sb) (by rw [add_mk, hb1'.cell]; rfl) ?_
  refine ldI_of (n := at_) (by rw [add_mk, hb1'.cell]; rfl) ?_
  have c2 : Chg Nil w w1.drew := hc1.step (hd1.chg Nil) fun _ _ h => h
  refine roomy_ok (r1.chg c2 fun _ _ h => h) (fun h => (n1 h).1) (by omega) fun w3 hc3 hb3 hs3 => ?_
  have c3 := t c2 hc3
  have rd3 : ∀ {w' : World}, Chg Nil w3 w' → Rd w' ⟨some ⟨w1.drew.heap.size, 0, none⟩, load.length, load.length + 3⟩ (U8 load) := fun h => by
    have := (hb3.chg h fun h => h).rd (o := 0) (l := load.length) (c := load.length + 3) (by simp) (by omega)
    rw [List.drop_zero, U8_take] at this
    simpa using this
  have full3 : ∀ {S : Nat → Prop} {w' : World}, Chg S w3 w' → ¬ S w1.drew.heap.size → Rd w' ⟨some ⟨w1.drew.heap.size, 0, none⟩, load.length + 3, load.length + 3⟩ (U8 (load ++ [171, 171, 171])) := fun h hn => by
    have := (hb3.chg h hn).rd (o := 0) (l := load.length + 3) (c := load.length + 3) (by simp) (by omega)
    rw [List.drop_zero, U8_take, List.take_of_length_le (by simp)] at this
    exact this
  refine seal_ok (ht.chg c3 fun h => h) (rd3 (Chg.refl _ _)) (fun h => by cases h) fun x w4 hx4 lx4 hc4 nx4 _ => ?_
  have c4 := t c3 hc4
  refine seal_ok (ht.chg c4 fun h => h) (rd3 hc4) (fun h => by cases h) fun y w5 hy5 ly5 hc5 ny5 _ => ?_
  have c5 := t c4 hc5
  refine refSeal_ok (r1.chg c5 fun _ _ h => h) n1 fun wt w6 hw6 hc6 nw6 => ?_
  have c6 := t c5 hc6
  have fewS := sealB_few k load
  have hx6 := (hx4.chg hc5 fun _ _ h => h).chg hc6 fun _ _ h => h
  have hy6 := hy5.chg hc6 fun _ _ h => h
  refine same_ok hx6.rd hw6.rd (by omega) fun w7 hd7 => ?_
  refine iteB_neg (by simp) ?_
  refine same_ok (hy6.rd.drw hd7) (hw6.rd.drw hd7) (by omega) fun w8 hd8 => ?_
  refine iteB_neg (by simp) ?_
  have hc8 : Chg Nil w6 w8 := (hd7.trans hd8).chg Nil
  have c8 := t c6 hc8
  have c38 : Chg Nil w3 w8 := t (t (t hc4 hc5) hc6) hc8
  refine intact_ok (full3 c38 fun h => h) rfl (r1.chg c8 fun _ _ h => h) (by omega) fun w9 hd9 => ?_
  refine iteB_neg (by simp) ?_
  have c9 := t c8 (hd9.chg Nil)
  refine roomy_ok (r2.chg c9 fun _ _ h => h) (fun h => (n2 h).1) (by omega) fun wa hca hba hsa => ?_
  have ca := t c9 hca
  have rda : ∀ {w' : World}, Chg Nil wa w' → Rd w' ⟨some ⟨w9.heap.size, 0, none⟩, bs.length, bs.length + 3⟩ (U8 bs) := fun h => by
    have := (hba.chg h fun h => h).rd (o := 0) (l := bs.length) (c := bs.length + 3) (by simp) (by omega)
    rw [List.drop_zero, U8_take] at this
    simpa using this
  have fulla : ∀ {S : Nat → Prop} {w' : World}, Chg S wa w' → ¬ S w9.heap.size → Rd w' ⟨some ⟨w9.heap.size, 0, none⟩, bs.length + 3, bs.length + 3⟩ (U8 (bs ++ [171, 171, 171])) := fun h hn => by
    have := (hba.chg h hn).rd (o := 0) (l := bs.length + 3) (c := bs.length + 3) (by simp) (by omega)
    rw [List.drop_zero, U8_take, List.take_of_length_le (by simp)] at this
    exact this
  refine opened_ok (ht.chg ca fun h => h) (rda (Chg.refl _ _)) (by omega) fun l wb hlb hcb nlb llb _ => ?_
  have cb := t ca hcb
  refine refOpened_ok (r2.chg cb fun _ _ h => h) (by omega) (fun h => (n2 h).2) fun m wc hmc hcc nmc => ?_
  have cc' := t cb hcc
  refine opened_ok (ht.chg cc' fun h => h) (rda (t hcb hcc)) (by omega) fun ag wd hgd hcd ngd lgd _ => ?_
  have cd := t cc' hcd
  have fewL := opened_load bs at_
  have hld := (hlb.chg hcc fun _ _ h => h).chg hcd fun _ _ h => h
  have hmd := hmc.chg hcd fun _ _ h => h
  refine iteB_neg (by simp) ?_
  refine same_ok hld.rd hmd.rd (by omega) fun we hde => ?_
  refine iteB_neg (by simp) ?_
  refine same_ok (hgd.rd.drw hde) (hmd.rd.drw hde) (by omega) fun wf hdf => ?_
  refine iteB_neg (by simp) (iteB_neg (by simp) (iteB_neg (by simp) ?_))
  have hcf : Chg Nil wd wf := (hde.trans hdf).chg Nil
  have cf := t cd hcf
  have caf : Chg Nil wa wf := t (t (t hcb hcc) hcd) hcf
  refine intact_ok (fulla caf fun h => h) rfl (r2.chg cf fun _ _ h => h) (by omega) fun wg hdg => ?_
  refine iteB_neg (by simp) ?_
  have cg := t cf (hdg.chg Nil)
  have cdg : Chg Nil wd wg := t hcf (hdg.chg Nil)
  have c6g : Chg Nil w6 wg := t (t (t (t (t (t hc8 (hd9.chg Nil)) hca) hcb) hcc) hcd) cdg
  refine newP_intro fun wh hch hbh hsh => ?_
  have z := hch.size
  have hx := hx6.chg (t c6g hch) fun _ _ h => h
  have hy := hy6.chg (t c6g hch) fun _ _ h => h
  have hl := hld.chg (t cdg hch) fun _ _ h => h
  have hg := hgd.chg (t cdg hch) fun _ _ h => h
  -- where the four lists lie
  have s0 := c2.size
  have s3 := hc3.size
  have s4 := hc4.size
  have s5 := hc5.size
  have s6 := c6g.size
  have s7 := hc6.size
  have sa := hca.size
  have sb' := hcb.size
  have sc := hcc.size
  have sd := hcd.size
  have sg := cdg.size
  have s69 := (t hc8 (hd9.chg Nil)).size
  have ltx : ∀ k, blkOf x = some k → w3.heap.size ≤ k ∧ k < w4.heap.size := fun k hk => ⟨nx4 k hk, hx4.lt k hk⟩
  have lty : ∀ k, blkOf y = some k → w4.heap.size ≤ k ∧ k < w5.heap.size := fun k hk => ⟨ny5 k hk, hy5.lt k hk⟩
  have ltl : ∀ k, blkOf l = some k → wa.heap.size ≤ k ∧ k < wb.heap.size := fun k hk => ⟨nlb k hk, hlb.lt k hk⟩
  have ltg : ∀ k, blkOf ag = some k → wc.heap.size ≤ k ∧ k < wd.heap.size := fun k hk => ⟨ngd k hk, hgd.lt k hk⟩
  have B0 : BkE wh wg.heap.size wg.heap.size 0 [] := ⟨_, _, _, _, _, bk_new hbh, fun q hq => by
    obtain ⟨p, hp, hk⟩ := hq
    rcases obj_cases hp with rfl | rfl | rfl | ⟨i, hi, rfl⟩ | ⟨i, hi, rfl⟩
    · cases hk; exact .inl (Nat.le_refl _)
    · cases hk
    · cases hk
    · omega
    · omega⟩
  refine putE_ok B0 hx (by omega) (fun q hq => ⟨by have := ltx q hq; omega, fun _ h => by cases h⟩) (by omega) (by omega) fun wi B1 hci => ?_
  have hy1 := hy.chg hci fun q hq he => by
    rcases he with he | ⟨_, hm, _⟩
    · have := lty q hq; omega
    · cases hm
  have hl1 := hl.chg hci fun q hq he => by
    rcases he with he | ⟨_, hm, _⟩
    · have := ltl q hq; omega
    · cases hm
  have hg1 := hg.chg hci fun q hq he => by
    rcases he with he | ⟨_, hm, _⟩
    · have := ltg q hq; omega
    · cases hm
  have si := hci.size
  refine putE_ok B1 hy1 (by omega) (fun q hq => ⟨by have := lty q hq; omega, fun s hs he => by
    have := lty q hq
    rcases List.mem_cons.1 hs with rfl | hs
    · have := ltx q he; omega
    · cases hs⟩) (by omega) (by omega) fun wj B2 hcj => ?_
  have in2 : ∀ q, (wg.heap.size ≤ q ∨ ∃ y', y' ∈ [x] ∧ blkOf y' = some q) → wg.heap.size ≤ q ∨ (w3.heap.size ≤ q ∧ q < w5.heap.size) := fun q h => by
    rcases h with h | ⟨y', hm, hk⟩
    · exact .inl h
    · simp only [List.mem_cons, List.not_mem_nil, or_false] at hm
      subst hm
      have := ltx q hk; exact .inr (by omega)
  have hl2 := hl1.chg hcj fun q hq he => by have := ltl q hq; rcases in2 q he with h | h <;> omega
  have hg2 := hg1.chg hcj fun q hq he => by have := ltg q hq; rcases in2 q he with h | h <;> omega
  have sj := hcj.size
  have in3 : ∀ q, (wg.heap.size ≤ q ∨ ∃ y', y' ∈ [y, x] ∧ blkOf y' = some q) → wg.heap.size ≤ q ∨ (w3.heap.size ≤ q ∧ q < w5.heap.size) := fun q h => by
    rcases h with h | ⟨y', hm, hk⟩
    · exact .inl h
    · simp only [List.mem_cons, List.not_mem_nil, or_false] at hm
      rcases hm with rfl | rfl
      · have := lty q hk; exact .inr (by omega)
      · have := ltx q hk; exact .inr (by omega)
  refine putE_ok B2 hl2 (by omega) (fun q hq => ⟨by have := ltl q hq; omega, fun s hs he => by
    have := ltl q hq
    rcases in3 q (.inr ⟨s, hs, he⟩) with h | h <;> omega⟩) (by omega) (by omega) fun wk B3 hck => ?_
  have hg3 := hg2.chg hck fun q hq he => by have := ltg q hq; rcases in3 q he with h | h <;> omega
  have sk := hck.size
  have in4 : ∀ q, (wg.heap.size ≤ q ∨ ∃ y', y' ∈ [l, y, x] ∧ blkOf y' = some q) → wg.heap.size ≤ q ∨ (w3.heap.size ≤ q ∧ q < w5.heap.size) ∨ (wa.heap.size ≤ q ∧ q < wb.heap.size) := fun q h => by
    rcases h with h | ⟨y', hm, hk⟩
    · exact .inl h
    · rcases List.mem_cons.1 hm with rfl | hm
      · have := ltl q hk; exact .inr (.inr this)
      · rcases in3 q (.inr ⟨y', hm, hk⟩) with h | h
        · exact .inl h
        · exact .inr (.inl h)
  refine putE_ok B3 hg3 (by omega) (fun q hq => ⟨by have := ltg q hq; omega, fun s hs he => by
    have := ltg q hq
    rcases in4 q (.inr ⟨s, hs, he⟩) with h | h | h <;> omega⟩) (by omega) (by omega) fun wm B4 hcm => ?_
  have in5 : ∀ q, (wg.heap.size ≤ q ∨ ∃ y', y' ∈ [ag, l, y, x] ∧ blkOf y' = some q) → wg.heap.size ≤ q ∨ (w3.heap.size ≤ q ∧ q < w5.heap.size) ∨ (wa.heap.size ≤ q ∧ q < wd.heap.size) := fun q h => by
    rcases h with h | ⟨y', hm, hk⟩
    · exact .inl h
    · rcases List.mem_cons.1 hm with rfl | hm
      · have := ltg q hk; exact .inr (.inr (by omega))
      · rcases in4 q (.inr ⟨y', hm, hk⟩) with h | h | h
        · exact .inl h
        · exact .inr (.inl h)
        · exact .inr (.inr (by omega))
  refine endsE_ok B4 (by omega) fun wn hcn => ?_
  refine iteB_pos rfl ?_
  let S : Nat → Prop := fun q => wg.heap.size ≤ q ∨ (w3.heap.size ≤ q ∧ q < w5.heap.size) ∨ (wa.heap.size ≤ q ∧ q < wd.heap.size)
  have hS : Chg S wg wn := by
    have a0 : Chg S wg wh := hch.mono fun _ _ h => h.elim
    have a1 := a0.step hci fun q _ h => by
      rcases h with h | ⟨_, hm, _⟩
      · exact .inl h
      · cases hm
    have a2 := a1.step hcj fun q _ h => by
      rcases in2 q h with h | h
      · exact .inl h
      · exact .inr (.inl h)
    have a3 := a2.step hck fun q _ h => by
      rcases in3 q h with h | h
      · exact .inl h
      · exact .inr (.inl h)
    have a4 := a3.step hcm fun q _ h => by
      rcases in4 q h with h | h | h
      · exact .inl h
      · exact .inr (.inl h)
      · exact .inr (.inr (by omega))
    exact a4.step hcn fun q _ h => in5 q h
  have c3g : Chg Nil w3 wg := t (t (t hc4 hc5) hc6) c6g
  have cag : Chg Nil wa wg := t caf (hdg.chg Nil)
  have hend : Chg Nil w wn := cg.step hS fun q hq h => by rcases h with h | h | h <;> (have := cg.size; have := ca.size; have := c3.size; omega)
  have h3 : Chg S w3 wn := (c3g.mono fun _ _ h => h.elim).step hS fun q _ h => h
  have ha : Chg S wa wn := (cag.mono fun _ _ h => h.elim).step hS fun q _ h => h
  refine intact_ok (full3 h3 fun h => by have h' : wg.heap.size ≤ w1.drew.heap.size ∨ (w3.heap.size ≤ w1.drew.heap.size ∧ w1.drew.heap.size < w5.heap.size) ∨ (wa.heap.size ≤ w1.drew.heap.size ∧ w1.drew.heap.size < wd.heap.size) := h; have := c3g.size; omega) rfl (r1.chg hend fun _ _ h => h) (by omega) fun wo hdo => ?_
  refine iteB_pos (by simp) ?_
  have hend' := t hend (hdo.chg Nil)
  have ha' : Chg S wa wo := ha.step (hdo.chg Nil) fun _ _ h => h.elim
  refine intact_ok (fulla ha' fun h => by have h' : wg.heap.size ≤ w9.heap.size ∨ (w3.heap.size ≤ w9.heap.size ∧ w9.heap.size < w5.heap.size) ∨ (wa.heap.size ≤ w9.heap.size ∧ w9.heap.size < wd.heap.size) := h; omega) rfl (r2.chg hend' fun _ _ h => h) (by omega) fun wp hdp => ?_
  exact ⟨by simp, t hend' (hdp.chg Nil)⟩
end Go.Proofs.YtmadhcoeiclalaaDoor
