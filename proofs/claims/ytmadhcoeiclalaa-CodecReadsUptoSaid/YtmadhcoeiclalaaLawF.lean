/- LawF: the law CodecOneForm. -/
import Derived.Test.YtmadhcoeiclalaaLawE
set_option linter.unusedVariables false
set_option linter.unusedSimpArgs false
namespace Go.Gt
theorem sum_len {α : Type} (f : α → Nat) (hf : ∀ a, 1 ≤ f a) : ∀ l : List α, l.length ≤ (l.map f).sum
  | [] => by simp
  | a :: l => by have := sum_len f hf l; have := hf a; simp only [List.map_cons, List.sum_cons, List.length_cons]; omega
end Go.Gt
namespace Go.Proofs.Ytmadhcoeiclalaa
open Go Go.Sh Go.Pl Go.RowKit Go.Num Go.Gt
/-- A Writer and a Reader, each in memory of its own that is new since a first world. -/
structure WR (w0 w : World) (bw : Nat) (sw : Slc) (ws : List UInt8) (br : Nat) (sr : Slc) (bs : List UInt8) (at_ : Nat) (e : Int) : Prop where
  wr : Wr w bw sw ws
  rr : Rr w br sr bs at_ e
  nil : Chg Nil w0 w
  bw0 : w0.heap.size ≤ bw
  br0 : w0.heap.size ≤ br
  sw0 : NewS w0.heap.size sw
  sr0 : NewS w0.heap.size sr
  ne : bw ≠ br
  d1 : blkOf sw ≠ some br
  d2 : blkOf sr ≠ some bw
  d3 : ∀ k, blkOf sr = some k → blkOf sw ≠ some k
theorem WR.after {w0 w w' : World} {bw : Nat} {sw : Slc} {ws : List UInt8} {br : Nat} {sr : Slc} {bs : List UInt8} {at_ : Nat} {e : Int} (h : WR w0 w bw sw ws br sr bs at_ e) (hc : Chg Nil w w') : WR w0 w' bw sw ws br sr bs at_ e :=
  ⟨h.wr.nil hc, h.rr.nil hc, chgNN h.nil hc, h.bw0, h.br0, h.sw0, h.sr0, h.ne, h.d1, h.d2, h.d3⟩
/-- .. the Reader has moved. -/
theorem WR.read {w0 w w' : World} {bw : Nat} {sw : Slc} {ws : List UInt8} {br : Nat} {sr : Slc} {bs : List UInt8} {at_ at2 : Nat} {e e2 : Int} (h : WR w0 w bw sw ws br sr bs at_ e) (hr : Rr w' br sr bs at2 e2) (hc : Chg (Of br) w w') : WR w0 w' bw sw ws br sr bs at2 e2 :=
  ⟨h.wr.chg hc h.ne fun k hk he => h.d1 (by subst he; exact hk), hr, h.nil.step hc fun i hi he => by subst he; have := h.br0; omega, h.bw0, h.br0, h.sw0, h.sr0, h.ne, h.d1, h.d2, h.d3⟩
/-- .. the Writer has grown. -/
theorem WR.write {w0 w w' : World} {bw : Nat} {sw sw' : Slc} {ws ws' : List UInt8} {br : Nat} {sr : Slc} {bs : List UInt8} {at_ : Nat} {e : Int} (h : WR w0 w bw sw ws br sr bs at_ e) (hw : Wr w' bw sw' ws') (g : WSt bw sw sw' w w') (hsr : ∀ k, blkOf sr = some k → k < w.heap.size) : WR w0 w' bw sw' ws' br sr bs at_ e := by
  have hbr := h.rr.blk.lt
  refine ⟨hw, h.rr.chg g.chg (fun he => ?_) (fun k hk he => ?_), g.nil h.nil h.bw0 h.sw0, h.bw0, h.br0, g.new h.sw0 h.nil.size, h.sr0, h.ne, fun he => ?_, h.d2, fun k hk he => ?_⟩
  · rcases he with he | he
    · exact h.ne he.symm
    · exact h.d1 he.symm
  · rcases he with he | he
    · exact h.d2 (by subst he; exact hk)
    · exact h.d3 k hk he.symm
  · rcases g.blk br he with h1 | h1
    · exact h.d1 h1
    · omega
  · rcases g.blk k he with h1 | h1
    · exact h.d3 k hk h1
    · have := hsr k hk; omega
theorem sr_lt {w : World} {b : Nat} {s : Slc} {bs : List UInt8} {at_ : Nat} {e : Int} (h : Rr w b s bs at_ e) (hne : bs ≠ []) : ∀ k, blkOf s = some k → k < w.heap.size := h.rd.lt (by simpa [U8] using hne)
set_option maxRecDepth 20000 in
theorem law_CodecOneForm {x0 x1 : Slc} {bs : List UInt8} {os : List OpM} {w : World} (r0 : Rd w x0 (U8 bs)) (n0 : x0.a = none → x0.l = 0 ∧ x0.c = 0) (z0 : x0.c ≤ reachBytes) (k1 : Rep reachBytes w (.sl 56 opG) [.slice x1.a x1.l x1.c] os)
    (hb : bulk (.pair .bytes (.pair (.sl 56 opG) .unit)) (bs, os, ()) ≤ 1048576) : c_preludelaw01_CodecOneForm x0 x1 w fun r w' => r = true ∧ Chg Nil w w' := by
  refine sim_preludelaw01_CodecOneForm ?_
  unfold sh_preludelaw01_CodecOneForm
  have hsum : bs.length + 1 + ((os.map (bulk opG)).sum + 1 + 0) ≤ 1048576 := hb
  have hol : List.length (α := OpM) os ≤ (os.map (bulk opG)).sum := sum_len (bulk opG) (fun a => Nat.le_add_left 1 _) os
  have hxl : x1.l = os.length := by
    obtain ⟨s, he, hl, _⟩ := k1
    have he' : x1.a = s.a ∧ x1.l = s.l ∧ x1.c = s.c := by simpa using he
    rw [he'.2.1]; exact hl
  refine awake_ok fun w1 hc1 => ?_
  refine iteB_neg (by simp) ?_
  refine copied_ok (r0.chg hc1 fun _ _ h => h) (fun h => (n0 h).1) (by omega) fun w2 hc2 hb2 hs2 => ?_
  have hc2' := chgNN hc1 hc2
  have hr2 : Rd w2 ⟨some ⟨w1.heap.size, 0, none⟩, bs.length, bs.length⟩ (U8 bs) := by
    have := hb2.rd (o := 0) (l := bs.length) (c := bs.length) (by simp) (by omega)
    rw [List.drop_zero, U8_take, List.take_of_length_le (Nat.le_refl _)] at this
    exact this
  refine read_ok hr2 (by omega) fun br sr w3 hr3 hc3 hbr hsr hsrlt => ?_
  have hc3' := chgNN hc2' hc3
  refine new_ok fun w4 hw4 hc4 hs4 => ?_
  have hc4' := chgNN hc3' hc4
  have hbr3 := hr3.blk.lt
  have hWR : WR w w4 w3.heap.size ⟨none, 0, 0⟩ [] br sr bs 0 0 :=
    ⟨hw4, hr3.nil hc4, hc4', hc3'.size, Nat.le_trans hc2'.size hbr, (fun b h => by cases h), (fun b h => by have := hsr b h; have := hc2'.size; omega), by omega, (fun h => by cases h), (fun h => by have := hsrlt _ h; omega), fun k hk h => by cases h⟩
  refine loopP_inv (fun st w5 => ∃ (i : Nat) (sw : Slc) (ws : List UInt8) (at_ : Nat) (e : Int), st.1 = (i : Int) ∧ i ≤ os.length ∧ WR w w5 w3.heap.size sw ws br sr bs at_ e ∧ Inv bs at_ e ws i ∧ w4.heap.size ≤ w5.heap.size) (fun st _ => os.length - st.1.toNat)
    ⟨0, _, _, _, _, rfl, Nat.zero_le _, hWR, ⟨fun _ => by simp, by simp, Nat.zero_le _⟩, Nat.le_refl _⟩ ?_
  rintro ⟨i0, u⟩ w5 next ⟨i, sw, ws, at_, e, rfl, hi, hR, hI, hge⟩ hnext
  simp only
  have hsr5 : ∀ {w' : World}, w4.heap.size ≤ w'.heap.size → ∀ k, blkOf sr = some k → k < w'.heap.size := fun h k hk => by have := hsrlt k hk; have := hc4.size; omega
  refine iteB_intro (fun h => ?_) (fun h => ?_)
  · have hlt : i < os.length := by simp [hxl] at h; omega
    have ei : IntKind.i64.wrap ((i : Int) + 1) = ((i + 1 : Nat) : Int) := by rw [wrap_i64 (by omega)]; omega
    refine op_at k1 hR.nil hlt fun ad s hop => ?_
    refine ldI_of hop.c0 ?_
    refine ldI_of hop.c1 ?_
    refine ldS_of hop.c2 ?_
    refine ldI_of hop.c3 ?_
    refine ldB_of hop.c4 ?_
    rw [ei]
    have g0 := wf_i64 hop.w0
    have g1 := wf_u64 hop.w1
    have g3 := wf_i64 hop.w3
    generalize os[i] = o at *
    obtain ⟨o0, o1, o2, o3, o4, ⟨⟩⟩ := o
    simp only at hop g0 g1 g3
    refine op_copy fun cb w6 hb6 hc6 hcb => ?_
    have hR6 := hR.after hc6
    have hs6 : w4.heap.size ≤ w6.heap.size := Nat.le_trans hge hc6.size
    have hfew := hI.few
    have hle := hI.le
    have step : ∀ (w' : World) (sw' : Slc) (ws' : List UInt8) (at2 : Nat) (e2 : Int), WR w w' w3.heap.size sw' ws' br sr bs at2 e2 → Inv bs at2 e2 ws' (i + 1) → w4.heap.size ≤ w'.heap.size → next (((i + 1 : Nat) : Int), ()) w' := fun w' sw' ws' at2 e2 h1 h2 h3 =>
      hnext _ _ ⟨i + 1, sw', ws', at2, e2, rfl, hlt, h1, h2, h3⟩ (by simp; omega)
    have cell : ∀ {w' : World} {o : Nat} {v : Value}, Blk w' cb #[.int .i64 o0, .int .u64 o1, .slice s.a s.l s.c, .int .i64 o3, .bool o4] 34 → (#[.int .i64 o0, .int .u64 o1, .slice s.a s.l s.c, .int .i64 o3, .bool o4] : Array Value)[o]? = some v → w'.cell? ((⟨cb, 0, none⟩ : Addr).add o) = some v := fun hb hv => by rw [add_mk, Nat.zero_add, hb.cell]; exact hv
    refine ldI_of (cell (o := 0) hb6 rfl) ?_
    have num : ∀ most : Nat, ∀ w7, Rr w7 br sr bs (rUpto bs at_ e most).2.1 (rUpto bs at_ e most).2.2 → Chg (Of br) w6 w7 → c_codec_Writer_Uint (some ⟨w3.heap.size, 0, none⟩) ((rUpto bs at_ e most).1 : Int) w7 fun w8 => next (((i + 1 : Nat) : Int), ()) w8 := fun most w7 hr7 hc7 => by
      have hR7 := hR6.read hr7 hc7
      have hs7 : w4.heap.size ≤ w7.heap.size := Nat.le_trans hs6 hc7.size
      exact wuint_ok hR7.wr rUpto_lt (by omega) fun sw' w8 hw8 g8 => step _ _ _ _ _ (hR7.write hw8 g8 (hsr5 hs7)) (inv_upto hI) (Nat.le_trans hs7 g8.chg.size)
    refine iteB_intro (fun h1 => ?_) (fun h1 => ?_)
    · refine rbyte_ok hR6.rr fun w7 hr7 hc7 => ?_
      have hR7 := hR6.read hr7 hc7
      have hs7 : w4.heap.size ≤ w7.heap.size := Nat.le_trans hs6 hc7.size
      exact wbyte_ok hR7.wr (by omega) fun sw' w8 hw8 g8 => step _ _ _ _ _ (hR7.write hw8 g8 (hsr5 hs7)) (inv_byte hI) (Nat.le_trans hs7 g8.chg.size)
    refine iteB_intro (fun h2 => ?_) (fun h2 => ?_)
    · exact ruintN_ok hR6.rr fun w7 hr7 hc7 => num _ w7 hr7 hc7
    refine iteB_intro (fun h6 => ?_) (fun h6 => ?_)
    · refine ldI_of (cell (o := 1) hb6 rfl) ?_
      obtain ⟨m, rfl⟩ : ∃ m : Nat, o1 = (m : Int) := ⟨o1.toNat, by omega⟩
      exact rupto_ok hR6.rr fun w7 hr7 hc7 => num _ w7 hr7 hc7
    refine iteB_intro (fun h3 => ?_) (fun h3 => ?_)
    · refine rint_ok hR6.rr fun w7 hr7 hc7 => ?_
      have hR7 := hR6.read hr7 hc7
      have hs7 : w4.heap.size ≤ w7.heap.size := Nat.le_trans hs6 hc7.size
      have hu := rUpto_lt (bs := bs) (at_ := at_) (most := 18446744073709551615) (e := e)
      have hz : -9223372036854775808 ≤ unz (rUpto bs at_ e 18446744073709551615).1 ∧ unz (rUpto bs at_ e 18446744073709551615).1 ≤ 9223372036854775807 := by
        generalize (rUpto bs at_ e 18446744073709551615).1 = q at hu
        unfold unz; split <;> omega
      refine wint_ok hR7.wr hz (by omega) fun sw' w8 hw8 g8 => ?_
      rw [zig_unz] at hw8
      exact step _ _ _ _ _ (hR7.write hw8 g8 (hsr5 hs7)) (inv_upto hI) (Nat.le_trans hs7 g8.chg.size)
    refine iteB_intro (fun h4 => ?_) (fun h4 => ?_)
    · refine ldI_of (cell (o := 3) hb6 rfl) ?_
      refine rbytes_ok hR6.rr g3.2 fun l w7 hr7 ho7 hc7 hn7 hl7 _ => ?_
      have hR7 := hR6.read hr7 hc7
      have hs7 : w4.heap.size ≤ w7.heap.size := Nat.le_trans hs6 hc7.size
      have hb7 := inv_bytes (most := o3) hI
      have hf7 := hb7.few
      have hl7' := hb7.le
      rw [List.length_append, List.length_append] at hf7
      have hsw := hR6.wr.own.lt
      have hbw := hR6.wr.blk.lt
      exact wbytes_ok hR7.wr ho7.rd (fun hn => own_none ho7 hn) (fun k hk => by
        have := hn7 k hk
        exact ⟨by omega, fun he => by have := hsw _ he; omega⟩) (by omega) fun sw' w8 hw8 g8 => step _ _ _ _ _ (hR7.write hw8 g8 (hsr5 hs7)) hb7 (Nat.le_trans hs7 g8.chg.size)
    refine iteB_intro (fun h5 => ?_) (fun h5 => ?_)
    · refine ldI_of (cell (o := 3) hb6 rfl) ?_
      refine rraw_ok hR6.rr g3.2 fun l w7 hr7 ho7 hc7 hn7 hl7 _ => ?_
      have hR7 := hR6.read hr7 hc7
      have hs7 : w4.heap.size ≤ w7.heap.size := Nat.le_trans hs6 hc7.size
      have hb7 := inv_raw (n := o3) hI
      have hf7 := hb7.few
      have hl7' := hb7.le
      rw [List.length_append] at hf7
      exact wraw_ok hR7.wr ho7.rd (fun hn => own_none ho7 hn) (by omega) fun sw' w8 hw8 g8 => step _ _ _ _ _ (hR7.write hw8 g8 (hsr5 hs7)) hb7 (Nat.le_trans hs7 g8.chg.size)
    · exact step _ _ _ _ _ hR6 ⟨hI.eq, by omega, hI.le⟩ hs6
  · refine rend_ok hR.rr fun w6 hd6 => ?_
    have hR6 := hR.after (hd6.chg Nil)
    refine iteB_intro (fun h1 => ⟨by trivial, hR6.nil⟩) (fun h1 => ?_)
    have h0 : rEnd bs at_ e = 0 := by simpa using h1
    have hws : ws = bs := by
      unfold rEnd at h0
      split at h0
      · rename_i he
        split at h0
        · simp at h0
        · rw [hI.eq he, List.take_of_length_le (by omega)]
      · rename_i he; exact absurd h0 he
    subst hws
    refine wout_ok hR6.wr (by omega) fun l w7 ho7 hc7 hn7 hl7 _ => ?_
    refine same_ok ho7.rd (r0.chg (chgNN hR6.nil hc7) fun _ _ h => h) (by omega) fun w8 hd8 => ?_
    exact ⟨by simp, chgNN (chgNN hR6.nil hc7) (hd8.chg Nil)⟩
end Go.Proofs.Ytmadhcoeiclalaa
