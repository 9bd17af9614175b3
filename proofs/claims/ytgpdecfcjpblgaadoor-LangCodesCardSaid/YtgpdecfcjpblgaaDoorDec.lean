/- Dec: lang.Decode: the library of some bytes. -/
import Derived.Test.YtgpdecfcjpblgaaDoorEnc
import Derived.Test.YtgpdecfcjpblgaaDoorGetL
set_option linter.unusedVariables false
set_option linter.unusedSimpArgs false
namespace Go.Lang
open Go.Num
def libN (bs : List UInt8) : Nat → Nat → Int → List Pc → List Pc × Nat × Int
  | 0, a, e, l => (l, a, e)
  | k + 1, a, e, l => if e = 0 then libN bs k (rdT bs (rBytes bs a e 31).2.1 (rBytes bs a e 31).2.2).2.1 (rdT bs (rBytes bs a e 31).2.1 (rBytes bs a e 31).2.2).2.2 (l ++ [⟨⟨(rBytes bs a e 31).1.toArray⟩, (rdT bs (rBytes bs a e 31).2.1 (rBytes bs a e 31).2.2).1⟩]) else (l, a, e)
theorem libN_stop {bs : List UInt8} {k a : Nat} {e : Int} {l : List Pc} (h : e ≠ 0) : libN bs k a e l = (l, a, e) := by
  cases k with
  | zero => rfl
  | succ k => simp only [libN]; rw [if_neg h]
def rdEnd (bs : List UInt8) (at_ : Nat) (e : Int) : Int := if e = 0 then (if at_ < bs.length then 11 else 0) else e
def unG (bs : List UInt8) (e1 : Int) (a1 : Nat) : List Pc × Nat × Int := libN bs (rUpto bs a1 e1 64).1 (rUpto bs a1 e1 64).2.1 (rUpto bs a1 e1 64).2.2 []
def unE (bs : List UInt8) (g : List Pc × Nat × Int) : List Pc × Int × Int :=
  if rdEnd bs g.2.1 g.2.2 ≠ 0 then ([], 0, rdEnd bs g.2.1 g.2.2) else if (checkT g.1).2 ≠ 0 then ([], (checkT g.1).1, (checkT g.1).2) else (g.1, 0, 0)
def hdE (f : List UInt8 × Nat × Int) : Int := if f.2.2 = 0 ∧ f.1 ≠ headB then 11 else f.2.2
def unT (bs : List UInt8) : List Pc × Int × Int := unE bs (unG bs (hdE (rRaw bs 0 0 4)) (rRaw bs 0 0 4).2.1)
end Go.Lang
namespace Go.Pl
open Go Go.Sh Go.RowKit Go.Lang
def pcC (x : Pc) (cs : Slc) : List Value := [.string x.name, .int .i64 x.p.a, .int .i64 x.p.b, .int .i64 x.p.c, .int .i64 x.p.d, .slice cs.a cs.l cs.c]
def cellsL (ps : List Pc) (css : List Slc) : List Value := (List.zipWith pcC ps css).flatten
theorem cellsL_snoc {ps : List Pc} {css : List Slc} (h : ps.length = css.length) (x : Pc) (cs : Slc) : cellsL (ps ++ [x]) (css ++ [cs]) = cellsL ps css ++ pcC x cs := by
  unfold cellsL
  rw [List.zipWith_append h]
  simp
theorem cellsL_at : ∀ {ps : List Pc} {css : List Slc} {i : Nat} {x : Pc} {cs : Slc} {j : Nat}, ps[i]? = some x → css[i]? = some cs → j < 6 → (cellsL ps css)[i * 6 + j]? = (pcC x cs)[j]?
  | [], _, i, x, cs, j, h, _, _ => by simp at h
  | _ :: _, [], i, x, cs, j, _, h, _ => by simp at h
  | p :: ps, c :: css, 0, x, cs, j, h1, h2, hj => by
    simp at h1 h2
    subst h1 h2
    have e : cellsL (p :: ps) (c :: css) = pcC p c ++ cellsL ps css := by simp [cellsL]
    rw [e, Nat.zero_mul, Nat.zero_add, List.getElem?_append_left (by simp [pcC]; omega)]
  | p :: ps, c :: css, i + 1, x, cs, j, h1, h2, hj => by
    have e : cellsL (p :: ps) (c :: css) = pcC p c ++ cellsL ps css := by simp [cellsL]
    have hl : (pcC p c).length = 6 := rfl
    rw [e, List.getElem?_append_right (by rw [hl]; omega), hl, show (i + 1) * 6 + j - 6 = i * 6 + j by omega]
    exact cellsL_at (by simpa using h1) (by simpa using h2) hj
theorem cellsL_len {ps : List Pc} {css : List Slc} (h : ps.length = css.length) : (cellsL ps css).length = ps.length * 6 := by
  induction ps generalizing css with
  | nil => cases css <;> simp [cellsL]
  | cons p ps ih =>
    cases css with
    | nil => simp at h
    | cons c css =>
      have e : cellsL (p :: ps) (c :: css) = pcC p c ++ cellsL ps css := by simp [cellsL]
      have hl : (pcC p c).length = 6 := rfl
      rw [e, List.length_append, hl, ih (by simpa using h), List.length_cons]
      omega
theorem Own.cellAt {w : World} {e : TypeId} {size : Nat} {s : Slc} {vs : List Value} (h : Own w e size s vs) {ad : Addr} (ha : s.a = some ad) {j : Nat} {v : Value} (hv : vs[j]? = some v) : w.cell? (ad.add j) = some v := by
  have hj := (List.getElem?_eq_some_iff.1 hv).1
  have hl := h.len
  rcases h.2 with ⟨hs, hn⟩ | ⟨g, cap, cur, hs, hb, hg, hnc, hcm, hcs, htake⟩
  · rw [hl, hn] at hj; omega
  · injection hs with h1 h2 h3
    rw [ha] at h1
    cases h1
    rw [add_mk, Nat.zero_add, Blk.cell (cur := cur) (t := e) hg]
    rw [← htake, List.getElem?_take] at hv
    split at hv
    · simpa using hv
    · cases hv
/-- A library in memory of its own, all its parts apart. -/
structure OL (n tp ti : Nat) (w : World) (s : Slc) (ps : List Pc) (css : List Slc) : Prop where
  own : Own w tp 6 s (cellsL ps css)
  len : ps.length = css.length
  code : ∀ (i : Nat) (x : Pc) (cs : Slc), ps[i]? = some x → css[i]? = some cs → Own w ti 2 cs (flat x.p.l) ∧ x.p.l.length ≤ 1000
  dj : ∀ cs ∈ css, Dj (blkOf cs) (blkOf s)
  sep : css.Pairwise fun a b => Dj (blkOf a) (blkOf b)
  ns : Ge n (blkOf s)
  nc : ∀ cs ∈ css, Ge n (blkOf cs)
  nul : s.a = none → s.c = 0
theorem OL.nil (n tp ti : Nat) (w : World) : OL n tp ti w ⟨none, 0, 0⟩ [] [] :=
  ⟨Own.nil _ _ _, rfl, (fun i x cs h => by simp at h), (fun cs h => by cases h), List.Pairwise.nil, (fun k h => by cases h), (fun cs h => by cases h), fun _ => rfl⟩
theorem OL.ch {L : List (Option Nat)} {n tp ti : Nat} {w w' : World} {s : Slc} {ps : List Pc} {css : List Slc} (h : OL n tp ti w s ps css) (hc : Ch L w w') (hn : ∀ k, n ≤ k → ¬ inL L k) : OL n tp ti w' s ps css :=
  ⟨h.own.ch hc fun k hk => hn k (h.ns k hk), h.len, fun i x cs h1 h2 => ⟨(h.code i x cs h1 h2).1.ch hc fun k hk => hn k (h.nc cs (List.mem_of_getElem? h2) k hk), (h.code i x cs h1 h2).2⟩, h.dj, h.sep, h.ns, h.nc, h.nul⟩
theorem OL.ch0 {n tp ti : Nat} {w w' : World} {s : Slc} {ps : List Pc} {css : List Slc} (h : OL n tp ti w s ps css) (hc : Ch [] w w') : OL n tp ti w' s ps css := h.ch hc fun _ _ h => h
theorem OL.slen {n tp ti : Nat} {w : World} {s : Slc} {ps : List Pc} {css : List Slc} (h : OL n tp ti w s ps css) : s.l = ps.length := by
  have h1 := h.own.len
  rw [cellsL_len h.len] at h1
  omega
theorem OL.cap {n tp ti : Nat} {w : World} {s : Slc} {ps : List Pc} {css : List Slc} (h : OL n tp ti w s ps css) : s.l ≤ s.c := by
  rcases h.own.2 with ⟨hs, hn⟩ | ⟨g, cap, cur, hs, hb, hg, hnc, _⟩
  · omega
  · injection hs with h1 h2 h3
    rw [h3]; exact hnc
theorem OL.lt {n tp ti : Nat} {w : World} {s : Slc} {ps : List Pc} {css : List Slc} (h : OL n tp ti w s ps css) : Lt w.heap.size (blkOf s) ∧ ∀ cs ∈ css, Lt w.heap.size (blkOf cs) := by
  refine ⟨h.own.ltS, fun cs hcs => ?_⟩
  obtain ⟨i, hi, he⟩ := List.mem_iff_getElem.1 hcs
  have h1 : css[i]? = some cs := by rw [← he]; simp
  have h2 : ps[i]? = some (ps[i]'(by rw [h.len]; exact hi)) := by simp
  exact (h.code i _ cs h2 h1).1.ltS
theorem OL.rdL {n tp ti : Nat} {w : World} {s : Slc} {ps : List Pc} {css : List Slc} (h : OL n tp ti w s ps css) : RdL w s ps :=
  ⟨h.slen, h.cap, fun i x hx => by
    have hi := (List.getElem?_eq_some_iff.1 hx).1
    have hcs : css[i]? = some (css[i]'(by rw [← h.len]; exact hi)) := by simp
    generalize css[i]'(by rw [← h.len]; exact hi) = cs at hcs
    obtain ⟨hc, hf⟩ := h.code i x cs hx hcs
    have hpos : s.l ≠ 0 := by rw [h.slen]; omega
    have hsa : ∃ ad, s.a = some ad := by
      rcases h.own.2 with ⟨hs, hn⟩ | ⟨g, cap, cur, hs, _⟩
      · exact absurd hn hpos
      · injection hs with h1 h2 h3
        exact ⟨_, h1⟩
    obtain ⟨ad, ha⟩ := hsa
    have cell : ∀ j v, j < 6 → (pcC x cs)[j]? = some v → w.cell? ((ad.add (i * 6)).add j) = some v := fun j v hj hv => by
      rw [Deep.add_add]
      exact h.own.cellAt ha (by rw [cellsL_at hx hcs hj]; exact hv)
    have c0 := cell 0 _ (by omega) rfl
    rw [add_zero'] at c0
    exact ⟨ad, cs, ha, c0, cell 1 _ (by omega) rfl, cell 2 _ (by omega) rfl, cell 3 _ (by omega) rfl, cell 4 _ (by omega) rfl, cell 5 _ (by omega) rfl, hc.rdC, by omega, fun hn => (hc.none0 hn).1⟩⟩
theorem OL.app {P : Program} {n t tp ti ty m : Nat} {z : Value} {bytes : Nat} (T : ElT P t tp z 6 bytes) {w : World} {s : Slc} {ps : List Pc} {css : List Slc} {x : Pc} {cs : Slc} {K : Slc → World → Prop} (h : OL n tp ti w s ps css) (hcs : Own w ti 2 cs (flat x.p.l)) (hf : x.p.l.length ≤ 1000)
    (hm : Ge m (blkOf cs)) (hms : Lt m (blkOf s)) (hmc : ∀ c ∈ css, Lt m (blkOf c)) (hn : n ≤ m) (hnw : n ≤ w.heap.size) (hb : (s.l + 1) * bytes ≤ 140737488355328) (hl : s.l + 1 ≤ 140737488355328)
    (hK : ∀ s' w', OL n tp ti w' s' (ps ++ [x]) (css ++ [cs]) → Ch [blkOf s] w w' → K s' w') :
    newP #[.string x.name, .int .i64 x.p.a, .int .i64 x.p.b, .int .i64 x.p.c, .int .i64 x.p.d, .slice cs.a cs.l cs.c] tp w fun a w1 => apP P #[t, t] ty [.slice s.a s.l s.c, .slice (some a) 1 1] w1 K := by
  have hlt := h.lt
  have hclt := hcs.ltS
  refine apB T rfl (by simp [Value.oneCell']) h.own hb hl fun s' w' ho hl' hg => hK s' w' ?_ hg.ch.1
  have hc := hg.ch.1
  have hfm := hg.ch.2
  have ncs : ∀ k, blkOf cs = some k → ¬ inL [blkOf s] k := fun k hk hin => by
    have := hms k (show some k = blkOf s from hin).symm
    have := hm k hk
    omega
  have nold : ∀ c ∈ css, ∀ k, blkOf c = some k → ¬ inL [blkOf s] k := fun c hcm k hk hin => h.dj c hcm k hk (show some k = blkOf s from hin).symm
  refine ⟨?_, by simp [h.len], fun i y c hy hcy => ?_, fun c hcm => ?_, ?_, ?_, fun c hcm => ?_, ?_⟩
  · rw [cellsL_snoc h.len]; exact ho
  · rcases Nat.lt_or_ge i ps.length with hi | hi
    · rw [List.getElem?_append_left hi] at hy
      rw [List.getElem?_append_left (by rw [← h.len]; exact hi)] at hcy
      exact ⟨(h.code i y c hy hcy).1.ch hc (nold c (List.mem_of_getElem? hcy)), (h.code i y c hy hcy).2⟩
    · have hie : i = ps.length := by
        have := (List.getElem?_eq_some_iff.1 hy).1
        simp at this; omega
      subst hie
      rw [List.getElem?_append_right (Nat.le_refl _), Nat.sub_self] at hy
      rw [List.getElem?_append_right (by rw [h.len]; exact Nat.le_refl _), h.len, Nat.sub_self] at hcy
      simp at hy hcy
      subst hy hcy
      exact ⟨hcs.ch hc ncs, hf⟩
  · intro k h1 h2
    rcases hfm k h2 with h3 | h3
    · rcases List.mem_append.1 hcm with hcm | hcm
      · exact h.dj c hcm k h1 h3
      · simp at hcm
        subst hcm
        exact ncs k h1 (show some k = blkOf s from h3.symm)
    · rcases List.mem_append.1 hcm with hcm | hcm
      · have := hlt.2 c hcm k h1; omega
      · simp at hcm
        subst hcm
        have := hclt k h1; omega
  · rw [List.pairwise_append]
    refine ⟨h.sep, by simp, fun a ha b hb' => ?_⟩
    simp at hb'
    subst hb'
    intro k h1 h2
    have := hmc a ha k h1
    have := hm k h2
    omega
  · intro k hk
    rcases hfm k hk with h3 | h3
    · exact h.ns k h3
    · omega
  · rcases List.mem_append.1 hcm with hcm | hcm
    · exact h.nc c hcm
    · simp at hcm
      subst hcm
      intro k hk
      have := hm k hk; omega
  · intro hn0
    rcases ho.2 with ⟨hs, _⟩ | ⟨g, cap, cur, hs, _⟩
    · injection hs with _ _ h3
    · injection hs with h1 _ _
      rw [hn0] at h1; cases h1
end Go.Pl
namespace Go.Proofs.YtgpdecfcjpblgaaDoor
open Go Go.Sh Go.Pl Go.RowKit Go.Lang Go.Names Go.Num Go.Gt
theorem rdEnd_eq (bs : List UInt8) (a : Nat) (e : Int) : rEnd bs a e = rdEnd bs a e := rfl
theorem head_eq (l : List UInt8) : (((ByteArray.mk l.toArray)).toList == (ByteArray.mk #[80, 82, 76, 49]).toList) = decide (l = headB) := by
  rw [seq_eq]
  unfold seq headB
  rfl
set_option maxRecDepth 20000 in
set_option maxHeartbeats 2000000 in
theorem decode_ok {x : Slc} {bs : List UInt8} {w : World} {K : Slc → Int → Int → World → Prop} (hx : Rd w x (U8 bs)) (hl : bs.length ≤ 140737488351232)
    (hK : ∀ s css w', OL w.heap.size 43 80 w' s (unT bs).1 css → Ch [] w w' → K s (unT bs).2.1 (unT bs).2.2 w') : c_lang_Decode x w K := by
  refine sim_lang_Decode ?_
  unfold sh_lang_Decode
  refine read_ok hx hl fun br sr w1 hr1 (hc1 : Ch [] w w1) hbr hsr hsrl => ?_
  have hbl := hr1.blk.lt
  have z1 := hc1.size
  refine rraw_ok hr1 (by omega) fun f w2 hr2 ho2 hc2 hn2 hl2 hnil2 => ?_
  replace hc2 := Ch.of1 hc2
  have z2 := hc2.size
  replace hc2 := hc1.trN hc2 hbr
  unfold unT at hK
  generalize rRaw bs 0 0 4 = F at *
  -- the head
  refine ⟨fun _ w3 => Rr w3 br sr bs F.2.1 (hdE F) ∧ Ch [] w w3 ∧ w1.heap.size ≤ w3.heap.size, ?_, ?_⟩
  rotate_left
  · dsimp only
    refine rerr_ok hr2 ?_
    unfold hdE
    refine iteB_eq (fun h => ?_) (fun h => ?_)
    · refine ⟨_, w2, to_str TU8.und u8T strT ho2.rd, ?_⟩
      rw [head_eq]
      refine iteB_ndec (fun hne => ?_) (fun heq => ?_)
      · refine rfail_ok hr2 fun w3 hr3 hc3 => ?_
        rw [if_pos ⟨h, hne⟩]
        have ef : rFail F.2.2 11 = 11 := by unfold rFail; rw [if_pos h]
        rw [ef] at hr3
        have hc3' := Ch.of1 hc3
        exact ⟨hr3, hc2.trN hc3' hbr, by have := hc3'.size; omega⟩
      · rw [if_neg (fun hh => hh.2 heq)]
        exact ⟨hr2, hc2, z2⟩
    · rw [if_neg (fun hh => h hh.1)]
      exact ⟨hr2, hc2, z2⟩
  rintro _ w3 ⟨hr3, hc3, hz3⟩
  clear hr2 ho2 hc2 hn2 hl2 hnil2 hr1 hx
  generalize hdE F = e1 at *
  generalize F.2.1 = a1 at *
  refine rupto_ok (most := 64) hr3 fun w4 hr4 hc4 => ?_
  replace hc4 := Ch.of1 hc4
  have z4 := hc4.size
  replace hc4 := hc3.trN hc4 hbr
  have hu := rUpto_most (bs := bs) (at_ := a1) (e := e1) (most := 64)
  unfold unG at hK
  generalize rUpto bs a1 e1 64 = U at *
  rw [wrap_i64 (by omega)]
  have hbr4 : br < w4.heap.size := by omega
  refine ⟨fun s w5 => ∃ css, OL w4.heap.size 43 80 w5 s.1 (libN bs U.1 U.2.1 U.2.2 []).1 css ∧ Rr w5 br sr bs (libN bs U.1 U.2.1 U.2.2 []).2.1 (libN bs U.1 U.2.1 U.2.2 []).2.2 ∧ Ch [] w w5, ?_, ?_⟩
  rotate_left
  · refine loopP_inv (fun st w5 => ∃ (i at2 : Nat) (e2 : Int) (ps : List Pc) (css : List Slc), st.2.1 = (i : Int) ∧ i ≤ U.1 ∧ ps.length = i ∧ OL w4.heap.size 43 80 w5 st.1 ps css ∧ Rr w5 br sr bs at2 e2 ∧ Ch [] w w5 ∧ w4.heap.size ≤ w5.heap.size ∧ libN bs (U.1 - i) at2 e2 ps = libN bs U.1 U.2.1 U.2.2 []) (fun st _ => U.1 - st.2.1.toNat)
      ⟨0, _, _, [], [], rfl, Nat.zero_le _, rfl, OL.nil _ _ _ _, hr4, hc4, Nat.le_refl _, rfl⟩ ?_
    rintro ⟨sl, i0, u⟩ w5 next ⟨i, at2, e2, ps, css, rfl, hi, hpl, hol, hr5, hc5, hz5, hN⟩ hnext
    dsimp only at hol ⊢
    have stop : (e2 ≠ 0 ∨ i = U.1) → ∃ css, OL w4.heap.size 43 80 w5 sl (libN bs U.1 U.2.1 U.2.2 []).1 css ∧ Rr w5 br sr bs (libN bs U.1 U.2.1 U.2.2 []).2.1 (libN bs U.1 U.2.1 U.2.2 []).2.2 ∧ Ch [] w w5 := fun hst => by
      have : libN bs (U.1 - i) at2 e2 ps = (ps, at2, e2) := by
        rcases hst with h | h
        · exact libN_stop h
        · rw [h, Nat.sub_self]; rfl
      rw [← hN, this]
      exact ⟨css, hol, hr5, hc5⟩
    refine iteB_dec (fun h => ?_) (fun h => stop (.inr (by omega)))
    have hlt : i < U.1 := by omega
    refine rerr_ok hr5 (iteB_eq (fun h0 => ?_) (fun h0 => stop (.inl h0)))
    subst h0
    rw [show U.1 - i = (U.1 - (i + 1)) + 1 by omega] at hN
    simp only [libN, if_true] at hN
    have below : ∀ k, w4.heap.size ≤ k → ¬ inL [some br] k := fun k hk => nin1 (by omega)
    refine rbytes_ok hr5 (by omega) fun nm w6 hr6 hnm hc6 hnn hln _ => ?_
    replace hc6 := Ch.of1 hc6
    have z6 := hc6.size
    replace hol := hol.ch hc6 below
    replace hc6 := hc5.trN hc6 hbr
    generalize rBytes bs at2 0 31 = B at *
    refine ⟨_, w6, to_str TU8.und u8T strT hnm.rd, ?_⟩
    refine get_ok hr6 (fun _ k hk => by have := hsrl k hk; omega) fun cs w7 hr7 hcs hc7 hcg => ?_
    have z7 := hc7.size
    have hol6 := hol.lt
    replace hol := hol.ch hc7 below
    replace hc7 := hc6.trN hc7 hbr
    have few := rdT_few (bs := bs) (at_ := B.2.1) (e := B.2.2)
    generalize rdT bs B.2.1 B.2.2 = R at *
    have hsl := hol.slen
    refine OL.app (x := ⟨⟨B.1.toArray⟩, R.1⟩) TPc hol hcs (by simp only []; omega) hcg hol6.1 hol6.2 (by omega) (by omega) (by omega) (by omega) fun s' w8 hol8 hc8 => ?_
    rw [wrap_i64 (by omega)]
    refine hnext _ _ ⟨i + 1, _, _, _, _, by simp, hlt, by simp [hpl], hol8, hr7.ch hc8 (fun hin => ?_) (fun _ k hk hin => ?_), hc7.trO hc8 (fun k hk => by have := hol.ns k hk; omega), by have := hc8.size; omega, hN⟩ (by simp; omega)
    · have := hol.ns br (show some br = blkOf sl from hin).symm; omega
    · have h1 := hol.ns k (show some k = blkOf sl from hin).symm
      have h2 := hsrl k hk; omega
  rintro ⟨s, u⟩ w5 ⟨css, hol, hr5, hc5⟩
  dsimp only at hol ⊢
  generalize libN bs U.1 U.2.1 U.2.2 [] = G at *
  refine rend_ok hr5 fun w6 hd6 => ?_
  have hc6 : Ch [] w5 w6 := hd6.chg Nil
  replace hol := hol.ch0 hc6
  replace hc6 := hc5.tr hc6
  unfold unE at hK
  rw [rdEnd_eq]
  refine iteB_ne (fun h => ?_) (fun h => ?_)
  · rw [if_pos h] at hK
    exact hK _ [] w6 (OL.nil _ _ _ _) hc6
  rw [if_neg (fun hh => hh h)] at hK
  refine check_ok hol.rdL fun w7 hc7 => ?_
  refine iteB_ne (fun h' => ?_) (fun h' => ?_)
  · rw [if_pos h'] at hK
    exact hK _ [] w7 (OL.nil _ _ _ _) (hc6.tr hc7)
  rw [if_neg (fun hh => hh h')] at hK
  have hol7 := hol.ch0 hc7
  refine hK s css w7 ⟨hol7.own, hol7.len, hol7.code, hol7.dj, hol7.sep, fun k hk => by have := hol7.ns k hk; omega, fun c hc k hk => by have := hol7.nc c hc k hk; omega, hol7.nul⟩ (hc6.tr hc7)
end Go.Proofs.YtgpdecfcjpblgaaDoor
