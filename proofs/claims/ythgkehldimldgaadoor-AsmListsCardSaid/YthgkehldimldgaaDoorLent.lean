/- Lent: a library that is lent, with its holder's behind the ends; whether it came back. -/
import Derived.Test.YthgkehldimldgaaDoorLibC
import Derived.Test.YthgkehldimldgaaDoorTxt
import Derived.Test.YthgkehldimldgaaDoorKeep
set_option linter.unusedVariables false
set_option linter.unusedSimpArgs false
namespace Go.Pl
open Go Go.Sh Go.RowKit Go.Lang
/-- A library, its codes' slices by a function. -/
structure RdF (w : World) (s : Slc) (ps : List Pc) (cf : Nat → Slc) : Prop where
  len : s.l = ps.length
  cap : s.l ≤ s.c
  at_ : ∀ i x, ps[i]? = some x → ∃ ad, s.a = some ad ∧ PcAt w (ad.add (i * 6)) x (cf i)
theorem RdL.fn {w : World} {s : Slc} {ps : List Pc} (h : RdL w s ps) : ∃ cf, RdF w s ps cf := by
  have : ∀ i : Nat, ∃ cs : Slc, ∀ x, ps[i]? = some x → ∃ ad, s.a = some ad ∧ PcAt w (ad.add (i * 6)) x cs := fun i => by
    cases hx : ps[i]? with
    | none => exact ⟨⟨none, 0, 0⟩, fun x h => by cases h⟩
    | some y =>
      obtain ⟨ad, cs, h1, h2⟩ := h.at_ i y hx
      exact ⟨cs, fun x h => by cases h; exact ⟨ad, h1, h2⟩⟩
  obtain ⟨cf, hcf⟩ := Classical.axiomOfChoice this
  exact ⟨cf, h.len, h.cap, hcf⟩
theorem RdF.ch0 {w w' : World} {s : Slc} {ps : List Pc} {cf : Nat → Slc} (h : RdF w s ps cf) (hc : Ch [] w w') : RdF w' s ps cf := ⟨h.len, h.cap, fun i x hx => by
  obtain ⟨ad, h1, h2⟩ := h.at_ i x hx
  exact ⟨ad, h1, h2.ch0 hc⟩⟩
theorem RdF.rdL {w : World} {s : Slc} {ps : List Pc} {cf : Nat → Slc} (h : RdF w s ps cf) : RdL w s ps := ⟨h.len, h.cap, fun i x hx => by
  obtain ⟨ad, h1, h2⟩ := h.at_ i x hx
  exact ⟨ad, cf i, h1, h2⟩⟩
theorem RdF.at' {w : World} {s : Slc} {ps : List Pc} {cf : Nat → Slc} (h : RdF w s ps cf) {i : Nat} (hi : i < ps.length) : ∃ ad, PcAt w ad ps[i] (cf i) ∧ ∀ (i' : Int) (K : Addr → Prop), i' = (i : Int) → K ad → idxP s.a s.l i' 6 K := by
  obtain ⟨ad, h1, h2⟩ := h.at_ i ps[i] (by simp)
  refine ⟨_, h2, fun i' K hi' hK => ?_⟩
  subst hi'
  exact ⟨by omega, by rw [h.len]; omega, ad, h1, by rw [Int.toNat_natCast]; exact hK⟩
def dash : ByteArray := ByteArray.mk #[45]
/-- What is behind the end of a code that was lent. -/
def Beh (w : World) (c n : Nat) : Prop := ∀ j, n ≤ j → j < n + 3 → w.cell? ⟨c, j * 2, none⟩ = some (.int .i64 (-7)) ∧ w.cell? ⟨c, j * 2 + 1, none⟩ = some (.int .i64 (j : Int))
theorem Beh.ch {L : List (Option Nat)} {w w' : World} {c n : Nat} (h : Beh w c n) (hc : Ch L w w') (hn : ¬ inL L c) : Beh w' c n := fun j h1 h2 => by
  obtain ⟨e1, e2⟩ := h j h1 h2
  exact ⟨cell_chg (show Chg (inL L) w w' from hc) e1 hn, cell_chg (show Chg (inL L) w w' from hc) e2 hn⟩
/-- A library that is lent. -/
structure LN (w : World) (k : Nat) (ps : List Pc) (cf : Nat → Slc) : Prop where
  at_ : ∀ i x, ps[i]? = some x → ∃ ds, PcAt w ⟨k, i * 6, none⟩ x ds ∧ ((cf i).a ≠ none → ∃ c, ds = ⟨some ⟨c, 0, none⟩, x.p.l.length, x.p.l.length + 3⟩ ∧ Beh w c x.p.l.length)
  more : ∀ j, ps.length ≤ j → j < ps.length + 3 → w.cell? ⟨k, j * 6, none⟩ = some (.string dash) ∧ w.cell? ⟨k, j * 6 + 1, none⟩ = some (.int .i64 (-(j : Int)))
theorem LN.ch0 {w w' : World} {k : Nat} {ps : List Pc} {cf : Nat → Slc} (h : LN w k ps cf) (hc : Ch [] w w') : LN w' k ps cf := by
  have kp : ∀ {a : Addr} {v : Value}, w.cell? a = some v → w'.cell? a = some v := fun hv => cell_chg (show Chg Nil w w' from hc) hv fun h => h
  refine ⟨fun i x hx => ?_, fun j h1 h2 => ⟨kp (h.more j h1 h2).1, kp (h.more j h1 h2).2⟩⟩
  obtain ⟨ds, g1, g2⟩ := h.at_ i x hx
  refine ⟨ds, g1.ch0 hc, fun hn => ?_⟩
  obtain ⟨c, e, g⟩ := g2 hn
  exact ⟨c, e, g.ch hc fun h => h⟩
theorem LN.rdL {w : World} {k : Nat} {ps : List Pc} {cf : Nat → Slc} (h : LN w k ps cf) : RdL w ⟨some ⟨k, 0, none⟩, ps.length, ps.length + 3⟩ ps := ⟨rfl, by simp only []; omega, fun i x hx => by
  obtain ⟨ds, g1, _⟩ := h.at_ i x hx
  exact ⟨⟨k, 0, none⟩, ds, rfl, by rw [add_mk, Nat.zero_add]; exact g1⟩⟩
/-- One that is lent already, as the row's cells. -/
structure LE (w : World) (k : Nat) (cur : Array Value) (j : Nat) (x : Pc) (sa : Option Addr) (ds : Slc) : Prop where
  e0 : cur[j * 6]? = some (.string x.name)
  e1 : cur[j * 6 + 1]? = some (.int .i64 x.p.a)
  e2 : cur[j * 6 + 2]? = some (.int .i64 x.p.b)
  e3 : cur[j * 6 + 3]? = some (.int .i64 x.p.c)
  e4 : cur[j * 6 + 4]? = some (.int .i64 x.p.d)
  e5 : cur[j * 6 + 5]? = some (.slice ds.a ds.l ds.c)
  rd : RdC w ds x.p.l
  nk : blkOf ds ≠ some k
  nl : ds.a = none → ds.l = 0
  few : x.p.l.length ≤ 8800000000000
  full : sa ≠ none → ∃ c, c ≠ k ∧ ds = ⟨some ⟨c, 0, none⟩, x.p.l.length, x.p.l.length + 3⟩ ∧ Beh w c x.p.l.length
theorem LE.mv {w w' : World} {k : Nat} {cur cur' : Array Value} {j : Nat} {x : Pc} {sa : Option Addr} {ds : Slc} (h : LE w k cur j x sa ds) (hc : Ch [some k] w w') (hcur : ∀ o, o < 6 → cur'[j * 6 + o]? = cur[j * 6 + o]?) : LE w' k cur' j x sa ds := by
  have g0 := hcur 0 (by omega)
  rw [Nat.add_zero] at g0
  refine ⟨by rw [g0]; exact h.e0, by rw [hcur 1 (by omega)]; exact h.e1, by rw [hcur 2 (by omega)]; exact h.e2, by rw [hcur 3 (by omega)]; exact h.e3, by rw [hcur 4 (by omega)]; exact h.e4, by rw [hcur 5 (by omega)]; exact h.e5,
    h.rd.ch hc (fun q hq => nin1' fun he => h.nk (by rw [hq, he])), h.nk, h.nl, h.few, fun hn => ?_⟩
  obtain ⟨c, g1, g2, g3⟩ := h.full hn
  exact ⟨c, g1, g2, g3.ch hc (nin1' fun he => g1 he)⟩
theorem LE.ch0 {w w' : World} {k : Nat} {cur : Array Value} {j : Nat} {x : Pc} {sa : Option Addr} {ds : Slc} (h : LE w k cur j x sa ds) (hc : Ch [] w w') : LE w' k cur j x sa ds :=
  h.mv (hc.mono fun _ _ h => h.elim) fun _ _ => rfl
end Go.Pl
namespace Go.Proofs.YthgkehldimldgaaDoor
open Go Go.Sh Go.Pl Go.RowKit Go.Lang Go.Names Go.Gt
set_option maxHeartbeats 4000000 in
set_option maxRecDepth 20000 in
theorem lent_ok {s : Slc} {ps : List Pc} {cf : Nat → Slc} {w : World} {K : Slc → World → Prop} (hs : RdF w s ps cf) (hl : ps.length ≤ 100000) (few : ∀ x ∈ ps, x.p.l.length ≤ 100000) (hnil : s.a = none → K ⟨none, 0, 0⟩ w)
    (hK : s.a ≠ none → ∀ k w', LN w' k ps cf → Ch [] w w' → K ⟨some ⟨k, 0, none⟩, ps.length, ps.length + 3⟩ w') : c_preludelaw04_lent s w K := by
  refine sim_preludelaw04_lent ?_
  unfold sh_preludelaw04_lent
  have ls := hs.len
  refine iteB_intro (fun h => hnil (by simpa using h)) fun hn => ?_
  have hn' : s.a ≠ none := fun h => by rw [h] at hn; cases hn
  replace hK := hK hn'
  clear hnil
  rw [wrap_i64 (by omega), show ((s.l : Int) + 3) = ((ps.length + 3 : Nat) : Int) by omega]
  refine mkP_intro TPc (by omega) (by omega) fun w1 (hc1 : Ch [] w w1) hb1 hs1 => ?_
  have hsz1 : (madeCells (Value.agg #[.string ByteArray.empty, .int .i64 0, .int .i64 0, .int .i64 0, .int .i64 0, .slice none 0 0]).cells ((ps.length + 3) * 6)).size = (ps.length + 3) * 6 := by simp [madeCells]
  generalize madeCells (Value.agg #[.string ByteArray.empty, .int .i64 0, .int .i64 0, .int .i64 0, .int .i64 0, .slice none 0 0]).cells ((ps.length + 3) * 6) = cur1 at hb1 hsz1
  have hkl := hb1.below
  generalize hkk : w.heap.size = k at *
  -- the marks
  refine loopP_inv (fun st w2 => ∃ (i : Nat) (cur : Array Value), st.1 = (i : Int) ∧ i ≤ ps.length + 3 ∧ Ch [] w w2 ∧ Blk w2 k cur 37 ∧ cur.size = (ps.length + 3) * 6 ∧
      ∀ j, j < i → cur[j * 6]? = some (.string dash) ∧ cur[j * 6 + 1]? = some (.int .i64 (-(j : Int)))) (fun st _ => ps.length + 3 - st.1.toNat) ⟨0, cur1, rfl, Nat.zero_le _, hc1, hb1, hsz1, fun j hj => by omega⟩ ?_
  clear hb1 hsz1 hc1 hs1 hkl
  rintro ⟨i0, u⟩ w2 next ⟨i, cur, rfl, hi, hc2, hb2, hsz, hall⟩ hnext
  dsimp only
  refine iteB_dec (fun h => ?_) fun h => ?_
  · have hlt : i < ps.length + 3 := by omega
    refine idxP_intro (by omega) (by omega) rfl ?_
    rw [Int.toNat_natCast, add_mk, Nat.zero_add]
    refine st6 hb2 (by omega) fun w3 cur3 hc3 hb3 hsz3 hout e0 e1 e2 e3 e4 e5 hz3 => ?_
    rw [wrap_i64 (x := (i : Int) + 1) (by omega)]
    refine hnext _ _ ⟨i + 1, cur3, by simp, hlt, hc2.trN hc3 (by omega), hb3, by omega, fun j hj => ?_⟩ (by simp; omega)
    rcases Nat.lt_or_ge j i with g | g
    · rw [hout _ (by omega), hout _ (by omega)]
      exact hall j g
    · have : j = i := by omega
      subst this
      rw [wrap_i64 (by omega), Int.zero_sub] at e1
      exact ⟨e0, e1⟩
  have hie : i = ps.length + 3 := by omega
  clear hnext next
  -- the procedures
  refine loopP_inv (fun st w3 => ∃ (i : Nat) (cur : Array Value), st.1 = (i : Int) ∧ i ≤ ps.length ∧ Ch [] w w3 ∧ Blk w3 k cur 37 ∧ cur.size = (ps.length + 3) * 6 ∧
      (∀ j, ps.length ≤ j → j < ps.length + 3 → cur[j * 6]? = some (.string dash) ∧ cur[j * 6 + 1]? = some (.int .i64 (-(j : Int)))) ∧
      ∀ j, (h : j < ps.length) → j < i → ∃ ds, LE w3 k cur j ps[j] (cf j).a ds) (fun st _ => ps.length - st.1.toNat) ⟨0, cur, rfl, Nat.zero_le _, hc2, hb2, hsz, fun j h1 h2 => hall j (by omega), fun j h hj => by omega⟩ ?_
  clear hall hsz hb2 hc2 hie hi h i cur
  rintro ⟨i0, u⟩ w3 next ⟨i, cur, rfl, hi, hc3, hb3, hsz, hmore, hall⟩ hnext
  dsimp only
  refine iteB_dec (fun h => ?_) fun h => ?_
  rotate_left
  · have hie : i = ps.length := by omega
    subst hie
    refine slP_front (n := ps.length) (by omega) (by omega) ?_
    refine hK k w3 ⟨fun j x hx => ?_, fun j h1 h2 => ?_⟩ hc3
    · have hj := (List.getElem?_eq_some_iff.1 hx).1
      obtain rfl : ps[j] = x := (List.getElem?_eq_some_iff.1 hx).2
      obtain ⟨ds, E⟩ := hall j hj hj
      have cell : ∀ {o : Nat} {v : Value}, cur[o]? = some v → w3.cell? ⟨k, o, none⟩ = some v := fun hv => by rw [hb3.cell]; exact hv
      refine ⟨ds, ⟨cell E.e0, by rw [add_mk]; exact cell E.e1, by rw [add_mk]; exact cell E.e2, by rw [add_mk]; exact cell E.e3, by rw [add_mk]; exact cell E.e4, by rw [add_mk]; exact cell E.e5, E.rd, E.few, E.nl⟩, fun hne => ?_⟩
      obtain ⟨c, _, g2, g3⟩ := E.full hne
      exact ⟨c, g2, g3⟩
    · obtain ⟨g1, g2⟩ := hmore j h1 h2
      exact ⟨by rw [hb3.cell]; exact g1, by rw [hb3.cell]; exact g2⟩
  have hlt : i < ps.length := by omega
  obtain ⟨ad, hp0, hidx⟩ := hs.at' hlt
  have hp := hp0.ch0 hc3
  refine hidx _ _ rfl ?_
  refine ldStr_of hp.c0 (ldI_of hp.c1 (ldI_of hp.c2 (ldI_of hp.c3 (ldI_of hp.c4 (ldS_of (s := cf i) hp.c5 ?_)))))
  refine idxP_intro (by omega) (by omega) rfl ?_
  rw [Int.toNat_natCast, add_mk, Nat.zero_add]
  have hkl := hb3.below
  refine st6 hb3 (by omega) fun w4 cur4 hc4 hb4 hsz4 hout e0 e1 e2 e3 e4 e5 hz4 => ?_
  have hc04 : Ch [] w w4 := hc3.trN hc4 (by omega)
  have hp4 := hp0.ch0 hc04
  have hmore4 : ∀ j, ps.length ≤ j → j < ps.length + 3 → cur4[j * 6]? = some (.string dash) ∧ cur4[j * 6 + 1]? = some (.int .i64 (-(j : Int))) := fun j h1 h2 => by
    rw [hout _ (by omega), hout _ (by omega)]; exact hmore j h1 h2
  have hall4 : ∀ j, (h : j < ps.length) → j < i → ∃ ds, LE w4 k cur4 j ps[j] (cf j).a ds := fun j h1 h2 => by
    obtain ⟨ds, E⟩ := hall j h1 h2
    exact ⟨ds, E.mv hc4 fun o ho => hout _ (by omega)⟩
  clear hall hmore hp hc4 hb3 hc3
  rw [wrap_i64 (x := (i : Int) + 1) (by omega)]
  refine hidx _ _ rfl ?_
  rw [Deep.add_add]
  refine ldS_of (s := cf i) hp4.c5 ?_
  have lr := hp4.rd.len
  have fw := few ps[i] (by simp)
  refine iteB_intro (fun hcn => ?_) fun hcn => ?_
  · have hcn' : (cf i).a = none := by simpa using hcn
    refine hnext _ _ ⟨i + 1, cur4, by simp, hlt, hc04, hb4, by omega, hmore4, fun j hj hji => ?_⟩ (by simp; omega)
    rcases Nat.lt_or_ge j i with g | g
    · exact hall4 j hj g
    · have : j = i := by omega
      subst this
      exact ⟨cf j, e0, e1, e2, e3, e4, e5, hp4.rd, by simp [blkOf, hcn'], hp4.nl, hp4.few, fun hne => absurd hcn' hne⟩
  have hcn' : (cf i).a ≠ none := fun h => by rw [h] at hcn; cases hcn
  refine hidx _ _ rfl ?_
  rw [Deep.add_add]
  refine ldS_of (s := cf i) hp4.c5 ?_
  rw [wrap_i64 (x := ((cf i).l : Int) + 3) (by omega), show (((cf i).l : Int) + 3) = ((ps[i].p.l.length + 3 : Nat) : Int) by omega]
  refine mkP_intro TIn (by omega) (by omega) fun w5 (hc5 : Ch [] w4 w5) hb5 hs5 => ?_
  have msz : (madeCells (Value.agg #[.int .i64 0, .int .i64 0]).cells ((ps[i].p.l.length + 3) * 2)).size = (ps[i].p.l.length + 3) * 2 := by simp [madeCells]
  generalize madeCells (Value.agg #[.int .i64 0, .int .i64 0]).cells ((ps[i].p.l.length + 3) * 2) = cc1 at hb5 msz
  have hck : k < w4.heap.size := hb4.below
  have hcl := hb5.below
  generalize hcc : w4.heap.size = c at *
  refine loopP_inv (fun st w6 => ∃ (q : Nat) (cc : Array Value), st.1 = (q : Int) ∧ q ≤ ps[i].p.l.length + 3 ∧ Ch [] w4 w6 ∧ Blk w6 c cc 39 ∧ cc.size = (ps[i].p.l.length + 3) * 2 ∧
      ∀ j, j < q → cc[j * 2]? = some (.int .i64 (-7)) ∧ cc[j * 2 + 1]? = some (.int .i64 (j : Int))) (fun st _ => ps[i].p.l.length + 3 - st.1.toNat) ⟨0, cc1, rfl, Nat.zero_le _, hc5, hb5, msz, fun j hj => by omega⟩ ?_
  clear hb5 msz hs5 hc5 hcl
  rintro ⟨q0, u2⟩ w6 next2 ⟨q, cc, rfl, hq, hc6, hb6, hcs, hfill⟩ hnext2
  dsimp only
  refine iteB_dec (fun hh => ?_) fun hh => ?_
  · have hqlt : q < ps[i].p.l.length + 3 := by omega
    refine idxP_intro (by omega) (by omega) rfl ?_
    rw [Int.toNat_natCast, add_mk, Nat.zero_add]
    refine stO hb6 (by omega) fun w7 hc7 hb7 hz7 => ?_
    rw [add_mk]
    refine stO hb7 (by simp; omega) fun w8 hc8 hb8 hz8 => ?_
    rw [wrap_i64 (by omega)]
    refine hnext2 _ _ ⟨q + 1, _, by simp, hqlt, (hc6.trN hc7 (by omega)).trN hc8 (by omega), hb8, by simp; omega, fun j hj => ?_⟩ (by simp; omega)
    rcases Nat.lt_or_ge j q with g | g
    · rw [Array.getElem?_setIfInBounds_ne (by omega), Array.getElem?_setIfInBounds_ne (by omega), Array.getElem?_setIfInBounds_ne (by omega), Array.getElem?_setIfInBounds_ne (by omega)]
      exact hfill j g
    · have : j = q := by omega
      subst this
      rw [Array.getElem?_setIfInBounds_ne (by omega), Array.getElem?_setIfInBounds_self_of_lt (by omega), Array.getElem?_setIfInBounds_self_of_lt (by simp; omega)]
      exact ⟨rfl, rfl⟩
  have hqe : q = ps[i].p.l.length + 3 := by omega
  subst hqe
  clear hnext2 next2
  have hc06 := hc04.tr hc6
  have hp6 := hp0.ch0 hc06
  refine hidx _ _ rfl ?_
  rw [Deep.add_add]
  refine ldS_of (s := cf i) hp6.c5 ?_
  refine cpP_intro TIn (x := cf i) (o := 0) (dl := ps[i].p.l.length + 3) (cs := flat ps[i].p.l) hb6 hp6.nl (by rw [flat_length, lr]; simp [Nat.min_def]) (fun ad ha => hp6.rd.cells ad ha) (by rw [flat_length, hcs]; omega) (flat_one _) fun w7 hc7 hb7 hs7 => ?_
  replace hc7 := Ch.of1 hc7
  have hfl := flat_length ps[i].p.l
  have hcur : ∀ j, ((cc.toList.take 0 ++ flat ps[i].p.l ++ cc.toList.drop (0 + (flat ps[i].p.l).length)).toArray : Array Value)[j]? = if j < ps[i].p.l.length * 2 then (flat ps[i].p.l)[j]? else cc[j]? := fun j => by
    rw [List.getElem?_toArray, List.take_zero, List.nil_append]
    split
    · rw [List.getElem?_append_left (by omega)]
    · rw [List.getElem?_append_right (by omega), List.getElem?_drop, Array.getElem?_toList, hfl]
      congr 1; omega
  generalize (cc.toList.take 0 ++ flat ps[i].p.l ++ cc.toList.drop (0 + (flat ps[i].p.l).length)).toArray = cur7 at hb7 hcur
  have hc07 : Ch [] w w7 := hc06.trN hc7 (by omega)
  have hc47 : Ch [] w4 w7 := hc6.trN hc7 (by omega)
  have hp7 := hp0.ch0 hc07
  refine hidx _ _ rfl ?_
  rw [Deep.add_add]
  refine ldS_of (s := cf i) hp7.c5 ?_
  refine slP_front (n := ps[i].p.l.length) (by omega) (by omega) ?_
  refine idxP_intro (by omega) (by omega) rfl ?_
  rw [Int.toNat_natCast, add_mk, Nat.zero_add, add_mk, add_mk]
  have hb47 := hb4.ch0 hc47
  refine stO hb47 (by omega) fun w8 hc8 hb8 hz8 => ?_
  have hoth : ∀ o, o ≠ i * 6 + 1 + 4 → (cur4.setIfInBounds (i * 6 + 1 + 4) (.slice (some ⟨c, 0, none⟩) ps[i].p.l.length (ps[i].p.l.length + 3)))[o]? = cur4[o]? := fun o ho => Array.getElem?_setIfInBounds_ne (by omega)
  refine hnext _ _ ⟨i + 1, _, by simp, hlt, hc07.trN hc8 (by omega), hb8, by simp; omega, fun j h1 h2 => ?_, fun j hj hji => ?_⟩ (by simp; omega)
  · rw [hoth _ (by omega), hoth _ (by omega)]
    exact hmore4 j h1 h2
  rcases Nat.lt_or_ge j i with g | g
  · obtain ⟨ds, E⟩ := hall4 j hj g
    exact ⟨ds, (E.ch0 hc47).mv hc8 fun o ho => hoth _ (by omega)⟩
  · have : j = i := by omega
    subst this
    have hb78 := hb7.ch hc8 (nin1' (show c ≠ k by omega))
    refine ⟨⟨some ⟨c, 0, none⟩, ps[j].p.l.length, ps[j].p.l.length + 3⟩, ?_, ?_, ?_, ?_, ?_, ?_, ?_, ?_, fun h => (by cases h), hp7.few, fun _ => ⟨c, by omega, rfl, fun q h1 h2 => ?_⟩⟩
    · rw [hoth _ (by omega)]; exact e0
    · rw [hoth _ (by omega)]; exact e1
    · rw [hoth _ (by omega)]; exact e2
    · rw [hoth _ (by omega)]; exact e3
    · rw [hoth _ (by omega)]; exact e4
    · rw [show j * 6 + 5 = j * 6 + 1 + 4 by omega, Array.getElem?_setIfInBounds_self_of_lt (by omega)]
    · refine Blk.rdC hb78 (fun q v hv => ?_) (by omega)
      have hq' := (List.getElem?_eq_some_iff.1 hv).1
      rw [hcur q, if_pos (by omega)]; exact hv
    · intro he
      have he' : c = k := by simpa [blkOf] using he
      omega
    · obtain ⟨g1, g2⟩ := hfill q h2
      rw [hb78.cell, hb78.cell, hcur, hcur, if_neg (by omega), if_neg (by omega)]
      exact ⟨g1, g2⟩
theorem eql_instr (x y : Operand) (a b c d : Int) (w : World) :
    (do eqGuard .eql 39 x y (.agg #[.int .i64 a, .int .i64 b]) (.agg #[.int .i64 c, .int .i64 d]); binOp .eql 39 (.agg #[.int .i64 a, .int .i64 b]) (.agg #[.int .i64 c, .int .i64 d])).run Tryd.prog w = .ok (.bool (a == c && b == d)) w := by
  have h1 : Tryd.prog.eqGuardType Tryd.prog.depth 39 = false := by kernel_rfl
  have h2 : Tryd.prog.underlying 39 = some (.struct (Tryd.prog.fieldsOf 39)) := by kernel_rfl
  have h3 : Tryd.prog.stoodInHeld 39 = false := by kernel_rfl
  have h4 : (Tryd.prog.fieldsOf 39).toList.map (fun f => (f.name != "_", f.type, f.offset)) = [(true, 3, 0), (true, 2, 1)] := by kernel_rfl
  have p0 : Tryd.prog.plainKey 3 = true := by kernel_rfl
  have p1 : Tryd.prog.plainKey 2 = true := by kernel_rfl
  have u0 : Tryd.prog.underlying 3 = some (.int .i64) := by kernel_rfl
  have u1 : Tryd.prog.underlying 2 = some (.int .i64) := by kernel_rfl
  rw [Sem.run_bind, run_eqGuard_agg _ _ _ _ _ _ _ h1, Result.andThen_ok, run_eql_struct, run_equalIn_agg w 9999 39 _ _ h2 h3]
  generalize (Tryd.prog.fieldsOf 39).toList = fs at h4
  obtain ⟨f0, f1, rfl⟩ : ∃ f0 f1, fs = [f0, f1] := by
    have hl := congrArg List.length h4
    simp at hl
    match fs, hl with
    | [x, y], _ => exact ⟨x, y, rfl⟩
  simp only [List.map_cons, List.map_nil, List.cons.injEq, Prod.mk.injEq, and_true] at h4
  obtain ⟨⟨n0, t0, o0⟩, n1, t1, o1⟩ := h4
  have m0 : f0.name ≠ "_" := by simpa using n0
  have m1 : f1.name ≠ "_" := by simpa using n1
  unfold Op.eqFields
  rw [if_pos m0, t0, o0]
  simp only [Sem.run_bind, run_part_plain (w := w) p0 (show (#[Value.int .i64 a, .int .i64 b] : Array Value)[0]? = some (.int .i64 a) from rfl), run_part_plain (w := w) p0 (show (#[Value.int .i64 c, .int .i64 d] : Array Value)[0]? = some (.int .i64 c) from rfl), Result.andThen_ok, run_equalIn_int w 9998 3 .i64 .i64 a c u0]
  by_cases hac : a = c
  · subst hac
    simp only [beq_self_eq_true, Bool.not_true, Bool.false_eq_true, if_false]
    unfold Op.eqFields
    rw [if_pos m1, t1, o1]
    simp only [Sem.run_bind, run_part_plain (w := w) p1 (show (#[Value.int .i64 a, .int .i64 b] : Array Value)[1]? = some (.int .i64 b) from rfl), run_part_plain (w := w) p1 (show (#[Value.int .i64 a, .int .i64 d] : Array Value)[1]? = some (.int .i64 d) from rfl), Result.andThen_ok, run_equalIn_int w 9998 2 .i64 .i64 b d u1]
    by_cases hbd : b = d
    · subst hbd; simp [Op.eqFields]
    · simp [hbd]
  · simp [hac]
theorem sameCode4_ok {a b : Slc} {l : List (Int × Int)} {w : World} {K : Bool → World → Prop} (ha : RdC w a l) (hb : RdC w b l) (hl : l.length ≤ 8800000000000) (hK : ∀ w', Ch [] w w' → K true w') : c_preludelaw04_sameCode a b w K := by
  refine sim_preludelaw04_sameCode ?_
  unfold sh_preludelaw04_sameCode
  have la := ha.len
  have lb := hb.len
  refine iteB_neg (by rw [la, lb]; simp) ?_
  refine loopP_inv (fun st w1 => ∃ i : Nat, st.1 = (i : Int) ∧ i ≤ l.length ∧ Ch [] w w1) (fun st _ => l.length - st.1.toNat) ⟨0, rfl, Nat.zero_le _, Ch.refl _ _⟩ ?_
  rintro ⟨i0, u⟩ w1 next ⟨i, rfl, hi, hc1⟩ hnext
  dsimp only
  refine iteB_dec (fun h => ?_) fun h => hK w1 hc1
  have hlt : i < l.length := by omega
  have hcd := hc1.tr (Ch.drew w1)
  refine (ha.ch0 hcd).idx rfl hlt fun ad e1 e2 => ldI_of e1 (ldI_of e2 ?_)
  refine (hb.ch0 hcd).idx rfl hlt fun bd f1 f2 => ldI_of f1 (ldI_of f2 ?_)
  refine ⟨_, w1.drew, neq_instr _ _ _ _ _ _ _, ?_⟩
  refine iteB_neg (by simp) ?_
  rw [wrap_i64 (by omega)]
  exact hnext _ _ ⟨i + 1, by simp, hlt, hcd⟩ (by simp; omega)
set_option maxHeartbeats 1000000 in
theorem sameLib4_ok {a b : Slc} {ps : List Pc} {w : World} {K : Bool → World → Prop} (ha : RdL w a ps) (hb : RdL w b ps) (hl : ps.length ≤ 1000000000000) (hK : ∀ w', Ch [] w w' → K true w') : c_preludelaw04_sameLib a b w K := by
  refine sim_preludelaw04_sameLib ?_
  unfold sh_preludelaw04_sameLib
  have la := ha.len
  have lb := hb.len
  refine iteB_neg (by rw [la, lb]; simp) ?_
  refine loopP_inv (fun st w1 => ∃ i : Nat, st.1 = (i : Int) ∧ i ≤ ps.length ∧ Ch [] w w1) (fun st _ => ps.length - st.1.toNat) ⟨0, rfl, Nat.zero_le _, Ch.refl _ _⟩ ?_
  rintro ⟨i0, u⟩ w1 next ⟨i, rfl, hi, hc1⟩ hnext
  dsimp only
  refine iteB_dec (fun h => ?_) (fun h => hK w1 hc1)
  have hlt : i < ps.length := by omega
  obtain ⟨ad, ca, hpa0, hia⟩ := (ha.ch0 hc1).at' hlt
  obtain ⟨bd, cb, hpb0, hib⟩ := (hb.ch0 hc1).at' hlt
  refine hia _ _ rfl (ldPc hpa0 ?_)
  refine newPr fun k2 w2 hc2 hb2 hk2 hs2 => ?_
  refine hib _ _ rfl (ldPc (hpb0.ch0 hc2) ?_)
  refine newPr fun k3 w3 hc3 hb3 hk3 hs3 => ?_
  have hcd : Ch [] w1 w3.drew := (hc2.tr hc3).tr (Ch.drew w3)
  have hpa := hpa0.ch0 hcd
  have hpb := hpb0.ch0 hcd
  have hb2' := (hb2.ch0 hc3).ch0 (Ch.drew w3)
  have hb3' := hb3.ch0 (Ch.drew w3)
  refine hia _ _ rfl (ldStr_of hpa.c0 (hib _ _ rfl (ldStr_of hpb.c0 ?_)))
  rw [seq_eq, seq_refl]
  refine iteB_neg rfl ?_
  refine ldI_b (o := 0) hb2' rfl (ldI_b (o := 0) hb3' rfl (iteB_neg (by simp) ?_))
  refine ldI_b (o := 1) hb2' rfl (ldI_b (o := 1) hb3' rfl (iteB_neg (by simp) ?_))
  refine ldI_b (o := 2) hb2' rfl (ldI_b (o := 2) hb3' rfl (iteB_neg (by simp) ?_))
  refine ldI_b (o := 3) hb2' rfl (ldI_b (o := 3) hb3' rfl (iteB_neg (by simp) ?_))
  refine ldS_b (o := 4) (s := ca) hb2' rfl (ldS_b (o := 4) (s := cb) hb3' rfl ?_)
  refine sameCode4_ok hpa.rd hpb.rd hpa.few fun w4 (hc4 : Ch [] w3.drew w4) => iteB_neg rfl ?_
  rw [wrap_i64 (by omega)]
  exact hnext _ _ ⟨i + 1, by simp, hlt, (hc1.tr hcd).tr hc4⟩ (by simp; omega)
theorem back0_ok {s : Slc} {w : World} {ps : List Pc} {K : Bool → World → Prop} (hs : RdL w s ps) (hn : s.a = none) (h0 : ps = []) (hK : ∀ w', Ch [] w w' → K true w') : c_preludelaw04_back ⟨none, 0, 0⟩ s w K := by
  refine sim_preludelaw04_back ?_
  unfold sh_preludelaw04_back
  subst h0
  refine sameLib4_ok (ps := []) ⟨rfl, Nat.le_refl _, fun i x hx => by simp at hx⟩ hs (by simp) fun w1 hc1 => ?_
  refine iteB_neg rfl (iteB_pos (by rw [hn]; rfl) (hK w1 hc1))
set_option maxHeartbeats 2000000 in
theorem back_ok {s : Slc} {k : Nat} {w : World} {ps : List Pc} {cf : Nat → Slc} {K : Bool → World → Prop} (hs : RdF w s ps cf) (hn : s.a ≠ none) (hN : LN w k ps cf) (hl : ps.length ≤ 100000) (few : ∀ x ∈ ps, x.p.l.length ≤ 100000) (hK : ∀ w', Ch [] w w' → K true w') :
    c_preludelaw04_back ⟨some ⟨k, 0, none⟩, ps.length, ps.length + 3⟩ s w K := by
  refine sim_preludelaw04_back ?_
  unfold sh_preludelaw04_back
  have ls := hs.len
  refine sameLib4_ok hN.rdL hs.rdL (by omega) fun w1 hc1 => ?_
  refine iteB_neg rfl (iteB_neg (by cases h : s.a with
    | none => exact absurd h hn
    | some a => rfl) ?_)
  rw [wrap_i64 (by omega)]
  refine slP_front (n := ps.length + 3) (by omega) (by simp only []; omega) ?_
  have hN1 := hN.ch0 hc1
  refine loopP_inv (fun st w2 => w2 = w1 ∧ st.1 = true ∧ ∃ j : Nat, st.2.1 = (j : Int) ∧ ps.length ≤ j ∧ j ≤ ps.length + 3) (fun st _ => ps.length + 3 - st.2.1.toNat) ⟨rfl, rfl, ps.length, by simp [ls], Nat.le_refl _, by omega⟩ ?_
  rintro ⟨b, j0, u⟩ w2 next ⟨rfl, rfl, j, rfl, hj1, hj2⟩ hnext
  dsimp only
  refine iteB_dec (fun h => ?_) fun h => ?_
  · have hlt : j < ps.length + 3 := by omega
    obtain ⟨g1, g2⟩ := hN1.more j hj1 hlt
    refine iteB_pos rfl ?_
    refine idxP_intro (by omega) (by omega) rfl ?_
    rw [Int.toNat_natCast, add_mk, Nat.zero_add]
    refine ldStr_of g1 ?_
    rw [seq_eq, show seq dash (ByteArray.mk #[45]) = true from seq_refl _]
    refine iteB_pos rfl ?_
    refine idxP_intro (by omega) (by omega) rfl ?_
    rw [Int.toNat_natCast, add_mk, Nat.zero_add, add_mk]
    refine ldI_of g2 ?_
    rw [wrap_i64 (x := 0 - (j : Int)) (by omega), wrap_i64 (by omega)]
    refine hnext _ _ ⟨rfl, by simp, j + 1, by simp, by omega, by omega⟩ (by simp; omega)
  clear hnext
  refine loopP_inv (fun st w3 => w3 = w2 ∧ st.1 = true ∧ ∃ i : Nat, st.2.1 = (i : Int) ∧ i ≤ ps.length) (fun st _ => ps.length - st.2.1.toNat) ⟨rfl, rfl, 0, rfl, Nat.zero_le _⟩ ?_
  rintro ⟨b, i0, u⟩ w3 next ⟨rfl, rfl, i, rfl, hi⟩ hnext
  dsimp only
  refine iteB_dec (fun h => ?_) fun h => hK w3 hc1
  have hlt : i < ps.length := by omega
  obtain ⟨ad, hp, hidx⟩ := (hs.ch0 hc1).at' hlt
  obtain ⟨ds, hq, hfull⟩ := hN1.at_ i ps[i] (by simp)
  have lr := hp.rd.len
  have fw := few ps[i] (by simp)
  refine hidx _ _ rfl ?_
  rw [Deep.add_add]
  refine ldS_of (s := cf i) hp.c5 ?_
  refine hidx _ _ rfl ?_
  rw [Deep.add_add]
  refine ldS_of (s := cf i) hp.c5 ?_
  rw [wrap_i64 (x := (i : Int) + 1) (by omega)]
  refine iteB_intro (fun hcn => hnext _ _ ⟨rfl, rfl, i + 1, by simp, hlt⟩ (by simp; omega)) fun hcn => ?_
  have hcn' : (cf i).a ≠ none := fun h => by rw [h] at hcn; cases hcn
  obtain ⟨c, rfl, hbeh⟩ := hfull hcn'
  refine idxP_intro (by omega) (by omega) rfl ?_
  rw [Int.toNat_natCast, add_mk, Nat.zero_add, Deep.add_add]
  refine ldS_of (s := ⟨some ⟨c, 0, none⟩, ps[i].p.l.length, ps[i].p.l.length + 3⟩) hq.c5 ?_
  rw [wrap_i64 (x := ((cf i).l : Int) + 3) (by omega)]
  refine slP_front (n := ps[i].p.l.length + 3) (by omega) (by simp only []; omega) ?_
  refine loopP_inv (fun st w4 => w4 = w3 ∧ st.1 = true ∧ ∃ j : Nat, st.2.1 = (j : Int) ∧ ps[i].p.l.length ≤ j ∧ j ≤ ps[i].p.l.length + 3) (fun st _ => ps[i].p.l.length + 3 - st.2.1.toNat) ⟨rfl, rfl, ps[i].p.l.length, by simp [lr], Nat.le_refl _, by omega⟩ ?_
  rintro ⟨b, j0, u⟩ w4 next2 ⟨rfl, rfl, j, rfl, hj1, hj2⟩ hnext2
  dsimp only
  refine iteB_dec (fun h => ?_) fun h => hnext _ _ ⟨rfl, rfl, i + 1, by simp, hlt⟩ (by simp; omega)
  have hjlt : j < ps[i].p.l.length + 3 := by omega
  obtain ⟨g1, g2⟩ := hbeh j hj1 hjlt
  refine iteB_pos rfl ?_
  refine idxP_intro (by omega) (by omega) rfl ?_
  rw [Int.toNat_natCast, add_mk, Nat.zero_add]
  refine ldI_of g1 ?_
  rw [add_mk]
  refine ldI_of g2 ?_
  refine ⟨_, w4, eql_instr _ _ _ _ _ _ _, ?_⟩
  rw [wrap_i64 (by omega)]
  refine hnext2 _ _ ⟨rfl, by simp, j + 1, by simp, by omega, by omega⟩ (by simp; omega)
theorem parts4_ok {s : Slc} {ps : List Pc} {w : World} {K : Int → World → Prop} (hs : RdL w s ps) (big : ∀ x ∈ ps, x.name.size ≤ 140737488351232) (hl : s.l ≤ 140737488351232)
    (hK : ∀ n w', Ch [] w w' → (0 ≤ n → bulkN ps ≤ 100000) → K n w') : c_preluderef04_Parts s 100000 w K := by
  refine sim_preluderef04_Parts ?_
  unfold sh_preluderef04_Parts
  have ls := hs.len
  refine loopP_inv (fun st w1 => ∃ i : Nat, st.2.1 = (i : Int) ∧ i ≤ ps.length ∧ st.1 + (bulkN (ps.take i) : Int) = 100000 ∧ -1000000000000000 ≤ st.1 ∧ Ch [] w w1) (fun st _ => ps.length - st.2.1.toNat) ⟨0, rfl, Nat.zero_le _, by simp [bulkN], by decide, Ch.refl _ _⟩ ?_
  rintro ⟨n, i0, u⟩ w1 next ⟨i, rfl, hi, hsum, hlo, hc⟩ hnext
  dsimp only at hsum hlo ⊢
  refine iteB_dec (fun h => ?_) (fun h => ?_)
  · have hlt : i < ps.length := by omega
    refine iteB_dec (fun hn => ?_) (fun hn => hK n w1 hc (fun h => absurd h (by omega)))
    have hcd := hc.tr (Ch.drew w1)
    have g1 := big ps[i] (List.getElem_mem hlt)
    obtain ⟨ad, cs, hA, ia⟩ := (hs.ch0 hcd).at' hlt
    have l2 := hA.rd.len
    have l3 := hA.few
    refine ia _ _ rfl (ldStr_of hA.c0 (ia _ _ rfl ?_))
    rw [Deep.add_add]
    refine ldS_of (s := cs) hA.c5 ?_
    rw [wrap_i64 (x := n - 1) (by omega), wrap_i64 (x := n - 1 - (ps[i].name.size : Int)) (by omega), wrap_i64 (x := n - 1 - (ps[i].name.size : Int) - (cs.l : Int)) (by omega), wrap_i64 (by omega)]
    refine hnext _ _ ⟨i + 1, by simp, hlt, ?_, by dsimp only; omega, hcd⟩ (by simp; omega)
    rw [bulkN_take hlt]
    dsimp only
    omega
  · have hie : i = ps.length := by omega
    subst hie
    rw [List.take_length] at hsum
    exact hK n w1 hc (fun h => by omega)
end Go.Proofs.YthgkehldimldgaaDoor
