/- LibC: the law LangChecks: a library's copy, whether two are the same, what came in. -/
import Derived.Test.YtgpdecfcjpblgaaDoorLibB
import Derived.Test.YtgpdecfcjpblgaaDoorPutB
set_option linter.unusedVariables false
set_option linter.unusedSimpArgs false
namespace Go.Pl
open Go Go.Sh Go.RowKit
theorem slP_front {ad : Addr} {l c n sz : Nat} {hi : Int} {K : Option Addr → Nat → Nat → Prop} (hh : hi = (n : Int)) (hn : n ≤ c) (hK : K (some ad) n c) : slP (some ad) l c none (some hi) sz K := by
  subst hh
  unfold slP
  simp only [Option.getD_none, Option.getD_some, Int.toNat_zero, Nat.zero_mul, Nat.sub_zero]
  refine ⟨by omega, by omega, by omega, ?_⟩
  have e : (if c = 0 then some ad else (some ad).map (·.add 0)) = some ad := by
    split <;> rfl
  rw [e, Int.toNat_natCast]
  exact hK
end Go.Pl
namespace Go.Proofs.YtgpdecfcjpblgaaDoor
open Go Go.Sh Go.Pl Go.RowKit Go.Lang Go.Names Go.Gt
theorem TPc : ElT Tryd.prog 22 43 (.agg #[.string ByteArray.empty, .int .i64 0, .int .i64 0, .int .i64 0, .int .i64 0, .slice none 0 0]) 6 72 := ⟨by kernel_rfl, by kernel_rfl, rfl, by decide⟩
def behind : ByteArray := ByteArray.mk #[98, 101, 104, 105, 110, 100]
def bulkL (ps : List Pc) : Nat := (ps.map fun x => x.p.l.length).sum
theorem bulk_take {ps : List Pc} {i : Nat} (h : i < ps.length) : bulkL (ps.take (i + 1)) = bulkL (ps.take i) + ps[i].p.l.length := by
  unfold bulkL
  rw [List.take_succ_eq_append_getElem h, List.map_append, List.sum_append]
  simp
theorem wide_ok {s : Slc} {ps : List Pc} {w : World} {K : Bool → World → Prop} (hs : RdL w s ps) (hl : ps.length ≤ 8800000000000) (h1 : K true w) (h2 : ps.length + bulkL ps ≤ 100000 → K false w) : c_preludelaw03_wide s w K := by
  refine sim_preludelaw03_wide ?_
  unfold sh_preludelaw03_wide
  have ls := hs.len
  refine loopP_inv (fun st w1 => w1 = w ∧ ∃ i : Nat, st.2.1 = (i : Int) ∧ i ≤ ps.length ∧ st.1 = ((ps.length + bulkL (ps.take i) : Nat) : Int)) (fun st _ => ps.length - st.2.1.toNat) ⟨rfl, 0, rfl, Nat.zero_le _, by simp [bulkL, ls]⟩ ?_
  rintro ⟨n0, i0, u⟩ w1 next ⟨rfl, i, rfl, hi, rfl⟩ hnext
  dsimp only
  have big : ((ps.length + bulkL (ps.take i) : Nat) : Int) > 100000 → K (decide (((ps.length + bulkL (ps.take i) : Nat) : Int) > 100000)) w1 := fun h => by
    rw [decide_eq_true h]; exact h1
  refine iteB_dec (fun h => ?_) (fun h => ?_)
  · have hlt : i < ps.length := by omega
    refine iteB_dec (fun hn => ?_) (fun hn => big (by omega))
    refine hs.idx rfl hlt fun ad cs hp => ?_
    rw [Deep.add_add]
    refine ldS_of hp.c5 ?_
    have lc := hp.rd.len
    have fc := hp.few
    rw [wrap_i64 (by omega), wrap_i64 (by omega)]
    exact hnext _ _ ⟨rfl, i + 1, by simp, hlt, by rw [bulk_take hlt]; simp only []; omega⟩ (by simp; omega)
  · have hie : i = ps.length := by omega
    subst hie
    rw [List.take_length] at big ⊢
    by_cases hb : ((ps.length + bulkL ps : Nat) : Int) > 100000
    · exact big hb
    · rw [decide_eq_false hb]; exact h2 (by omega)
set_option maxRecDepth 20000 in
set_option maxHeartbeats 1000000 in
theorem library_ok {s : Slc} {ps : List Pc} {w : World} {K : Slc → Slc → World → Prop} (hs : RdL w s ps) (hl : ps.length ≤ 100000)
    (hK : ∀ k cur w', RdL w' ⟨some ⟨k, 0, none⟩, ps.length, ps.length + 1⟩ ps → Blk w' k cur 43 → cur[ps.length * 6]? = some (.string behind) → Ch [] w w' →
      K ⟨some ⟨k, 0, none⟩, ps.length, ps.length + 1⟩ ⟨some ⟨k, 0, none⟩, ps.length + 1, ps.length + 1⟩ w') : c_preludelaw03_library s w K := by
  refine sim_preludelaw03_library ?_
  unfold sh_preludelaw03_library
  have ls := hs.len
  rw [wrap_i64 (by omega), show ((s.l : Int) + 1) = ((ps.length + 1 : Nat) : Int) by omega]
  refine mkP_intro TPc (by omega) (by omega) fun w1 (hc1 : Ch [] w w1) hb1 hs1 => ?_
  have hk0 : w.heap.size ≤ w.heap.size := Nat.le_refl _
  have hkl := hb1.below
  have hsz1 : (madeCells (Value.agg #[.string ByteArray.empty, .int .i64 0, .int .i64 0, .int .i64 0, .int .i64 0, .slice none 0 0]).cells ((ps.length + 1) * 6)).size = (ps.length + 1) * 6 := by simp [madeCells]
  generalize madeCells (Value.agg #[.string ByteArray.empty, .int .i64 0, .int .i64 0, .int .i64 0, .int .i64 0, .slice none 0 0]).cells ((ps.length + 1) * 6) = cur1 at hb1 hsz1
  generalize hkk : w.heap.size = k at *
  refine loopP_inv (fun st w2 => ∃ (i : Nat) (cur : Array Value), st.1 = (i : Int) ∧ i ≤ ps.length ∧ Ch [] w w2 ∧ Blk w2 k cur 43 ∧ cur.size = (ps.length + 1) * 6 ∧
      ∀ j, (h : j < ps.length) → j < i → ∃ cs : Slc, cur[j * 6]? = some (.string ps[j].name) ∧ cur[j * 6 + 1]? = some (.int .i64 ps[j].p.a) ∧ cur[j * 6 + 2]? = some (.int .i64 ps[j].p.b) ∧ cur[j * 6 + 3]? = some (.int .i64 ps[j].p.c) ∧ cur[j * 6 + 4]? = some (.int .i64 ps[j].p.d) ∧ cur[j * 6 + 5]? = some (.slice cs.a cs.l cs.c) ∧ RdC w2 cs ps[j].p.l ∧ blkOf cs ≠ some k ∧ (cs.a = none → cs.l = 0) ∧ ps[j].p.l.length ≤ 8800000000000) (fun st _ => ps.length - st.1.toNat)
    ⟨0, cur1, rfl, Nat.zero_le _, hc1, hb1, hsz1, fun j h hj => by omega⟩ ?_
  clear hb1 hsz1
  rintro ⟨i0, u⟩ w2 next ⟨i, cur, rfl, hi, hc2, hb2, hsz, hall⟩ hnext
  dsimp only
  refine iteB_dec (fun h => ?_) (fun h => ?_)
  · have hlt : i < ps.length := by omega
    obtain ⟨ad, cs, hp0, hidx⟩ := hs.at' hlt
    have hp := hp0.ch0 hc2
    refine hidx _ _ rfl (ldPc hp ?_)
    refine roomyP_ok hp.rd hp.nl hp.few fun cb curc w3 hr3 hc3 hcb => ?_
    have hk2 := hb2.below
    refine newPr fun k4 w4 hc4 hb4 hk4 hs4 => ?_
    have hcd : Ch [] w3 w4.drew := hc4.tr (Ch.drew _)
    have hc2d := hc3.tr hcd
    have hr4 := hr3.ch0 hcd
    have hb4d := hb4.ch0 (Ch.drew w4)
    have hb2d := hb2.ch0 hc2d
    have hcwd := hc2.tr hc2d
    have hp4 := hp0.ch0 hcwd
    have hall4 : ∀ j, (h : j < ps.length) → j < i → ∃ cs : Slc, cur[j * 6]? = some (.string ps[j].name) ∧ cur[j * 6 + 1]? = some (.int .i64 ps[j].p.a) ∧ cur[j * 6 + 2]? = some (.int .i64 ps[j].p.b) ∧ cur[j * 6 + 3]? = some (.int .i64 ps[j].p.c) ∧ cur[j * 6 + 4]? = some (.int .i64 ps[j].p.d) ∧ cur[j * 6 + 5]? = some (.slice cs.a cs.l cs.c) ∧ RdC w4.drew cs ps[j].p.l ∧ blkOf cs ≠ some k ∧ (cs.a = none → cs.l = 0) ∧ ps[j].p.l.length ≤ 8800000000000 := fun j h1 h2 => by
      obtain ⟨cs', e0, e1, e2, e3, e4, e5, e6, e7⟩ := hall j h1 h2
      exact ⟨cs', e0, e1, e2, e3, e4, e5, e6.ch0 hc2d, e7⟩
    generalize w4.drew = w5 at *
    refine hidx _ _ rfl (ldStr_of hp4.c0 ?_)
    refine ldPr (s := ⟨some ⟨cb, 0, none⟩, ps[i].p.l.length, ps[i].p.l.length + 2⟩) hb4d ?_
    refine idxP_intro (by omega) (by omega) rfl ?_
    rw [Int.toNat_natCast, add_mk, Nat.zero_add]
    refine st6 hb2d (by omega) fun w6 cur6 hc6 hb6 hsz6 hout e0 e1 e2 e3 e4 e5 hz6 => ?_
    rw [wrap_i64 (by omega)]
    refine hnext _ _ ⟨i + 1, cur6, by simp, hlt, hcwd.trN hc6 (by omega), hb6, by omega, fun j hj hji => ?_⟩ (by simp; omega)
    rcases Nat.lt_or_ge j i with hlt' | hge
    · obtain ⟨cs', f0, f1, f2, f3, f4, f5, f6, f7, f8⟩ := hall4 j hj hlt'
      refine ⟨cs', ?_, ?_, ?_, ?_, ?_, ?_, f6.ch hc6 (fun q hq => nin1' fun he => f7 (by rw [hq, he])), f7, f8⟩
      all_goals rw [hout _ (by omega)]; assumption
    · have : j = i := by omega
      subst this
      exact ⟨⟨some ⟨cb, 0, none⟩, ps[j].p.l.length, ps[j].p.l.length + 2⟩, e0, e1, e2, e3, e4, e5, hr4.rd.ch hc6 (fun q hq => nin1' fun he => by cases hq; simp only [] at he; omega), (fun he => by
        have he' : cb = k := by simpa [blkOf] using he
        omega), (fun h => by cases h), hp.few⟩
  · have hie : i = ps.length := by omega
    subst hie
    refine idxP_intro (by omega) (by omega) rfl ?_
    rw [ls, Int.toNat_natCast, add_mk, Nat.zero_add]
    refine stO hb2 (by omega) fun w3 hc3 hb3 hs3 => ?_
    have hc03 : Ch [] w w3 := hc2.trN hc3 (by omega)
    refine slP_front rfl (by omega) ?_
    refine hK k _ w3 ⟨rfl, by simp only []; omega, fun j x hx => ?_⟩ hb3 (by rw [Array.getElem?_setIfInBounds_self_of_lt (by omega)]; rfl) hc03
    have hj := (List.getElem?_eq_some_iff.1 hx).1
    obtain rfl : ps[j] = x := (List.getElem?_eq_some_iff.1 hx).2
    obtain ⟨cs, f0, f1, f2, f3, f4, f5, f6, f7, f8, f9⟩ := hall j hj hj
    have cell : ∀ {o : Nat} {v : Value}, o < ps.length * 6 → cur[o]? = some v → w3.cell? ⟨k, o, none⟩ = some v := fun ho hv => by
      rw [hb3.cell, Array.getElem?_setIfInBounds_ne (by omega)]; exact hv
    refine ⟨⟨k, 0, none⟩, cs, rfl, ?_⟩
    rw [add_mk, Nat.zero_add]
    refine ⟨cell (by omega) f0, ?_, ?_, ?_, ?_, ?_, f6.ch hc3 (fun q hq => nin1' fun he => f7 (by rw [hq, he])), f9, f8⟩
    all_goals rw [add_mk]
    · exact cell (by omega) f1
    · exact cell (by omega) f2
    · exact cell (by omega) f3
    · exact cell (by omega) f4
    · exact cell (by omega) f5
set_option maxHeartbeats 1000000 in
theorem sameLib_ok {a b : Slc} {ps : List Pc} {w : World} {K : Bool → World → Prop} (ha : RdL w a ps) (hb : RdL w b ps) (hl : ps.length ≤ 1000000000000) (hK : ∀ w', Ch [] w w' → K true w') : c_preludelaw03_sameLibrary a b w K := by
  refine sim_preludelaw03_sameLibrary ?_
  unfold sh_preludelaw03_sameLibrary
  have la := ha.len
  have lb := hb.len
  refine iteB_neg (by rw [la, lb]; simp) ?_
  refine loopP_inv (fun st w1 => ∃ i : Nat, st.1 = (i : Int) ∧ i ≤ ps.length ∧ Ch [] w w1) (fun st _ => ps.length - st.1.toNat) ⟨0, rfl, Nat.zero_le _, Ch.refl _ _⟩ ?_
  rintro ⟨i0, u⟩ w1 next ⟨i, rfl, hi, hc1⟩ hnext
  dsimp only
  refine iteB_dec (fun h => ?_) (fun h => hK w1 hc1)
  have hlt : i < ps.length := by omega
  have hcd := hc1.tr (Ch.drew w1)
  obtain ⟨ad, ca, hpa, hia⟩ := (ha.ch0 hcd).at' hlt
  obtain ⟨bd, cb, hpb, hib⟩ := (hb.ch0 hcd).at' hlt
  refine hia _ _ rfl (ldStr_of hpa.c0 (hib _ _ rfl (ldStr_of hpb.c0 ?_)))
  rw [seq_eq, seq_refl]
  refine iteB_neg rfl ?_
  refine hia _ _ rfl (ldPc hpa (hib _ _ rfl (ldPc hpb ?_)))
  refine sameProgram_ok hpa.rd hpb.rd (by have := hpa.few; omega) fun w2 (hc2 : Ch [] w1.drew w2) => iteB_neg rfl ?_
  rw [wrap_i64 (by omega)]
  exact hnext _ _ ⟨i + 1, by simp, hlt, hcd.tr hc2⟩ (by simp; omega)
abbrev pgG : G := .st (.pair (.int .i64) (.pair (.int .i64) (.pair (.int .i64) (.pair (.int .i64) (.pair insG .unit)))))
abbrev libG : G := .sl 72 (.st (.pair .str (.pair pgG .unit)))
def pgOf (m : Int × Int × Int × Int × Mo insG × Unit) : Pg := ⟨m.1, m.2.1, m.2.2.1, m.2.2.2.1, code m.2.2.2.2.1⟩
def libL (l : List (ByteArray × (Int × Int × Int × Int × Mo insG × Unit) × Unit)) : List Pc := l.map fun m => ⟨m.1, pgOf m.2.1⟩
theorem libL_at {l : List (ByteArray × (Int × Int × Int × Int × Mo insG × Unit) × Unit)} {i : Nat} {x : Pc} (h : (libL l)[i]? = some x) : ∃ nm a b c d mi, l[i]? = some (nm, (a, b, c, d, mi, ()), ()) ∧ x = ⟨nm, ⟨a, b, c, d, code mi⟩⟩ := by
  unfold libL at h
  rw [List.getElem?_map] at h
  cases hm : l[i]? with
  | none => rw [hm] at h; cases h
  | some m =>
    rw [hm] at h
    cases h
    exact ⟨m.1, m.2.1.1, m.2.1.2.1, m.2.1.2.2.1, m.2.1.2.2.2.1, m.2.1.2.2.2.2.1, rfl, rfl⟩
theorem libL_len (l : List (ByteArray × (Int × Int × Int × Int × Mo insG × Unit) × Unit)) : (libL l).length = l.length := by simp [libL]
def libOf (ms : Mo libG) : List Pc := libL ms
def I64p (x : Pg) : Prop := (-9223372036854775808 ≤ x.a ∧ x.a ≤ 9223372036854775807) ∧ (-9223372036854775808 ≤ x.b ∧ x.b ≤ 9223372036854775807) ∧ (-9223372036854775808 ≤ x.c ∧ x.c ≤ 9223372036854775807) ∧ (-9223372036854775808 ≤ x.d ∧ x.d ≤ 9223372036854775807) ∧ I64 x.l
theorem rep_lib {R : Nat} {w : World} {s : Slc} {ms : Mo libG} (hR : R ≤ 140737488351232) (h : Gt.Rep R w libG [.slice s.a s.l s.c] ms) : RdL w s (libOf ms) ∧ (∀ x ∈ libOf ms, I64p x.p ∧ x.name.size ≤ R) ∧ (s.a = none → s.l = 0 ∧ s.c = 0) ∧ s.c * 72 ≤ R := by
  obtain ⟨s', he, h1, h2, h3, h4, h5⟩ := h
  have he' : s = s' := by
    cases s; cases s'; simpa using he
  subst he'
  have wf : ∀ {n : Int}, (Lit.int .i64 n).wf = true → -9223372036854775808 ≤ n ∧ n ≤ 9223372036854775807 := fun h => by
    simp [Lit.wf, IntKind.min, IntKind.max, IntKind.signed, IntKind.bits] at h
    omega
  have key : ∀ (i : Nat) (x : Pc), (libOf ms)[i]? = some x → ∃ ad cs, s.a = some ad ∧ PcAt w (ad.add (i * 6)) x cs ∧ I64p x.p ∧ x.name.size ≤ R := fun i x hx => by
    obtain ⟨nm, a, b, c, d, mi, hm, rfl⟩ := libL_at hx
    obtain ⟨ad, es, g1, g2, g3, g4⟩ := h5 i (nm, (a, b, c, d, mi, ()), ()) hm
    obtain ⟨c1, c2, rfl, ⟨rfl, hz⟩, c3, c4, rfl, ⟨d1, d2, rfl, ⟨rfl, w1⟩, d3, d4, rfl, ⟨rfl, w2⟩, d5, d6, rfl, ⟨rfl, w3⟩, d7, d8, rfl, ⟨rfl, w4⟩, d9, d10, rfl, hins, rfl⟩, rfl⟩ := g4
    have hins' := hins
    obtain ⟨cs, rfl, _⟩ := hins
    obtain ⟨hrd, h64, hnil, hcap⟩ := rep_code hins'
    have e0 := g3 0 (by decide)
    have e1 := g3 1 (by decide)
    have e2 := g3 2 (by decide)
    have e3 := g3 3 (by decide)
    have e4 := g3 4 (by decide)
    have e5 := g3 5 (by decide)
    have lr := hrd.len
    have cr := hrd.cap
    exact ⟨ad, cs, g1, ⟨e0, e1, e2, e3, e4, e5, hrd, (show (code mi).length ≤ 8800000000000 by have lr' : cs.l = (code mi).length := lr; omega), fun h => (hnil h).1⟩, ⟨wf w1, wf w2, wf w3, wf w4, h64⟩, hz⟩
  refine ⟨⟨by rw [h1]; exact (libL_len ms).symm, h2, fun i x hx => ?_⟩, fun x hx => ?_, h3, h4⟩
  · obtain ⟨ad, cs, g1, g2, _⟩ := key i x hx
    exact ⟨ad, cs, g1, g2⟩
  · obtain ⟨i, hi⟩ := List.getElem?_of_mem hx
    obtain ⟨ad, cs, _, _, g4⟩ := key i x hi
    exact g4
end Go.Proofs.YtgpdecfcjpblgaaDoor
