/- Get: a program read out of bytes: lang.Get. -/
import Derived.Test.YtgpdecfcjpblgaaDoorPr
import Derived.Test.YtgpdecfcjpblgaaDoorRd
import Derived.Test.YtgpdecfcjpblgaaDoorMr
set_option linter.unusedVariables false
set_option linter.unusedSimpArgs false
namespace Go.Lang
open Go.Num
/-- An instruction is read, its first byte being read. -/
def getI' (bs : List UInt8) (c at_ : Nat) (e : Int) : (Int × Int) × Nat × Int :=
  let e1 : Int := if e = 0 ∧ (c ≥ 128 ∨ c % 64 ≥ 37) then 31 else e
  if c ≥ 64 then
    (((c % 64 : Nat), unz (rUpto bs at_ e1 18446744073709551615).1), (rUpto bs at_ e1 18446744073709551615).2.1, if (rUpto bs at_ e1 18446744073709551615).2.2 = 0 ∧ unz (rUpto bs at_ e1 18446744073709551615).1 = 0 then 11 else (rUpto bs at_ e1 18446744073709551615).2.2)
  else (((c % 64 : Nat), 0), at_, e1)
def getI (bs : List UInt8) (at_ : Nat) (e : Int) : (Int × Int) × Nat × Int := getI' bs ((rRaw bs at_ e 1).1.getD 0 0).toNat (rRaw bs at_ e 1).2.1 (rRaw bs at_ e 1).2.2
def getN (bs : List UInt8) : Nat → Nat → Int → List (Int × Int) → List (Int × Int) × Nat × Int
  | 0, at_, e, l => (l, at_, e)
  | k + 1, at_, e, l => if e = 0 then getN bs k (getI bs at_ e).2.1 (getI bs at_ e).2.2 (l ++ [(getI bs at_ e).1]) else (l, at_, e)
theorem getN_stop {bs : List UInt8} {k at_ : Nat} {e : Int} {l : List (Int × Int)} (h : e ≠ 0) : getN bs k at_ e l = (l, at_, e) := by
  cases k with
  | zero => rfl
  | succ k => simp only [getN]; rw [if_neg h]
/-- A program is read: its numbers, its code, where the Reader then stands, what is wrong. -/
structure Pg where
  a : Int
  b : Int
  c : Int
  d : Int
  l : List (Int × Int)
def rdT (bs : List UInt8) (at_ : Nat) (e : Int) : Pg × Nat × Int :=
  let q1 := rUpto bs at_ e 16
  let q2 := rUpto bs q1.2.1 q1.2.2 16
  let q3 := rUpto bs q2.2.1 q2.2.2 16
  let q4 := rUpto bs q3.2.1 q3.2.2 16
  let q5 := rUpto bs q4.2.1 q4.2.2 256
  let g := getN bs q5.1 q5.2.1 q5.2.2 []
  (if g.2.2 = 0 then ⟨q1.1, q2.1, q3.1, q4.1, g.1⟩ else ⟨0, 0, 0, 0, []⟩, g.2.1, g.2.2)
theorem rUpto_most {bs : List UInt8} {at_ most : Nat} {e : Int} : (rUpto bs at_ e most).1 ≤ most := by
  unfold rUpto
  split
  · exact Nat.zero_le _
  · rcases dnum 0 0 (bs.drop at_) with ⟨n, k, d⟩
    simp only
    split
    · exact Nat.zero_le _
    · split
      · exact Nat.zero_le _
      · simp only; omega
theorem rUpto_bad {bs : List UInt8} {at_ most : Nat} {e : Int} (h : e ≠ 0) : rUpto bs at_ e most = (0, at_, e) := by
  unfold rUpto; rw [if_pos h]
theorem rdT_bad {bs : List UInt8} {at_ : Nat} {e : Int} (h : e ≠ 0) : rdT bs at_ e = (⟨0, 0, 0, 0, []⟩, at_, e) := by
  unfold rdT
  simp only [rUpto_bad h, getN, if_neg h]
end Go.Lang
namespace Go.Pl
open Go Go.Sh Go.RowKit
theorem nin1 {k b : Nat} (h : k ≠ b) : ¬ inL [some b] k := fun hin => h (by
  have hin : some k = some b := hin
  cases hin; rfl)
theorem Own.rdC {w : World} {e : TypeId} {s : Slc} {cs : List (Int × Int)} (h : Own w e 2 s (flat cs)) : RdC w s cs := by
  have hl : s.l = cs.length := by have := h.len; rw [flat_length] at this; omega
  rcases h.2 with ⟨hs, hn⟩ | ⟨g, cap, cur, hs, hb, hg, hnc, hcm, hcs, htake⟩
  · injection hs with h1 h2 h3
    exact ⟨hl, by rw [h2, h3]; exact Nat.le_refl _, fun i x hx => by
      have : i < cs.length := (List.getElem?_eq_some_iff.1 hx).1
      omega⟩
  · injection hs with h1 h2 h3
    have key : ∀ (j : Nat) (v : Value), (flat cs)[j]? = some v → w.cell? ⟨g, j, none⟩ = some v := fun j v hv => by
      rw [Blk.cell (cur := cur) (t := e) hg]
      have hj := (List.getElem?_eq_some_iff.1 hv).1
      rw [← htake, List.getElem?_take] at hv
      split at hv
      · simpa using hv
      · cases hv
    refine ⟨hl, by rw [h3]; exact hnc, fun i x hx => ?_⟩
    have := flat_at cs i x hx
    refine ⟨_, h1, ?_, ?_⟩
    · rw [add_mk, Nat.zero_add]; exact key _ _ this.1
    · rw [add_mk, add_mk, Nat.zero_add]; exact key _ _ this.2
theorem flat_snoc (cs : List (Int × Int)) (x : Int × Int) : flat (cs ++ [x]) = flat cs ++ [.int .i64 x.1, .int .i64 x.2] := by simp [flat]
end Go.Pl
namespace Go.Proofs.YtgpdecfcjpblgaaDoor
open Go Go.Sh Go.Pl Go.RowKit Go.Lang Go.Num
theorem Rr.chgE {S : Nat → Prop} {w w' : World} {b : Nat} {s : Slc} {bs : List UInt8} {at_ : Nat} {e : Int} (h : Rr w b s bs at_ e) (hc : Chg S w w') (hb : ¬ S b) (hs : bs ≠ [] → ∀ k, blkOf s = some k → ¬ S k) : Rr w' b s bs at_ e := ⟨h.blk.chg hc hb, rdE h.rd hc hs, h.ne, h.le, h.few⟩
theorem Rr.ch {L : List (Option Nat)} {w w' : World} {b : Nat} {s : Slc} {bs : List UInt8} {at_ : Nat} {e : Int} (h : Rr w b s bs at_ e) (hc : Ch L w w') (hb : ¬ inL L b) (hs : bs ≠ [] → ∀ k, blkOf s = some k → ¬ inL L k) : Rr w' b s bs at_ e := h.chgE hc hb hs
theorem Rr.ch0 {w w' : World} {b : Nat} {s : Slc} {bs : List UInt8} {at_ : Nat} {e : Int} (h : Rr w b s bs at_ e) (hc : Ch [] w w') : Rr w' b s bs at_ e := h.nil hc
/-- Where the reading of a program stands. -/
structure GSr (w0 w : World) (b : Nat) (s : Slc) (bs : List UInt8) (at_ : Nat) (e : Int) (k1 k2 : Nat) (x : Pg) (sl : Slc) : Prop where
  rr : Rr w b s bs at_ e
  z : Blk w k1 #[.int .i64 0, .int .i64 0, .int .i64 0, .int .i64 0, .slice none 0 0] 41
  p : Blk w k2 #[.int .i64 x.a, .int .i64 x.b, .int .i64 x.c, .int .i64 x.d, .slice sl.a sl.l sl.c] 41
  own : Own w 80 2 sl (flat x.l)
  ch : Ch [some b] w0 w
  b0 : b < w0.heap.size
  s0 : bs ≠ [] → Lt w0.heap.size (blkOf s)
  n1 : w0.heap.size ≤ k1
  n2 : k1 < k2
  g : ∀ k, blkOf sl = some k → k2 < k
section
variable {w0 w w' : World} {b : Nat} {s : Slc} {bs : List UInt8} {at_ : Nat} {e : Int} {k1 k2 : Nat} {x : Pg} {sl : Slc}
theorem GSr.rd {at2 : Nat} {e2 : Int} (h : GSr w0 w b s bs at_ e k1 k2 x sl) (hr : Rr w' b s bs at2 e2) (hc : Chg (Of b) w w') : GSr w0 w' b s bs at2 e2 k1 k2 x sl := by
  have hc' : Ch [some b] w w' := Ch.of1 hc
  have h1 := h.n1
  have h2 := h.n2
  have h3 := h.b0
  exact ⟨hr, h.z.ch hc' (nin1 (by omega)), h.p.ch hc' (nin1 (by omega)), h.own.ch hc' fun k hk => nin1 (by have := h.g k hk; omega), h.ch.tr hc', h.b0, h.s0, h.n1, h.n2, h.g⟩
theorem GSr.new (h : GSr w0 w b s bs at_ e k1 k2 x sl) (hc : Ch [] w w') : GSr w0 w' b s bs at_ e k1 k2 x sl :=
  ⟨h.rr.ch0 hc, h.z.ch0 hc, h.p.ch0 hc, h.own.ch0 hc, h.ch.tr0 hc, h.b0, h.s0, h.n1, h.n2, h.g⟩
/-- A block that is newer than all but the code has changed. -/
theorem GSr.over {k9 : Nat} (h : GSr w0 w b s bs at_ e k1 k2 x sl) (hc : Ch [some k9] w w') (h9 : k2 < k9) (hs9 : blkOf sl ≠ some k9) : GSr w0 w' b s bs at_ e k1 k2 x sl := by
  have h1 := h.n1
  have h2 := h.n2
  have h3 := h.b0
  exact ⟨h.rr.ch hc (nin1 (by omega)) (fun hne k hk => nin1 (by have := h.s0 hne k hk; omega)), h.z.ch hc (nin1 (by omega)), h.p.ch hc (nin1 (by omega)), h.own.ch hc (fun k hk => nin1 fun he => hs9 (by rw [hk, he])), h.ch.trN hc (by omega), h.b0, h.s0, h.n1, h.n2, h.g⟩
theorem GSr.st {y : Pg} (h : GSr w0 w b s bs at_ e k1 k2 x sl) (hy : y.l = x.l) (hc : Ch [some k2] w w') (hp : Blk w' k2 #[.int .i64 y.a, .int .i64 y.b, .int .i64 y.c, .int .i64 y.d, .slice sl.a sl.l sl.c] 41) : GSr w0 w' b s bs at_ e k1 k2 y sl := by
  have h1 := h.n1
  have h2 := h.n2
  have h3 := h.b0
  exact ⟨h.rr.ch hc (nin1 (by omega)) (fun hne k hk => nin1 (by have := h.s0 hne k hk; omega)), h.z.ch hc (nin1 (by omega)), hp, by rw [hy]; exact h.own.ch hc (fun k hk => nin1 (by have := h.g k hk; omega)), h.ch.trN hc (by omega), h.b0, h.s0, h.n1, h.n2, h.g⟩
/-- One more instruction. -/
theorem GSr.app {k9 : Nat} {t9 : TypeId} {i : Int × Int} {K : World → Prop} (h : GSr w0 w b s bs at_ e k1 k2 x sl) (h9 : Blk w k9 #[.int .i64 i.1, .int .i64 i.2] t9) (hl : x.l.length ≤ 1000000)
    (hK : ∀ sl' w', GSr w0 w' b s bs at_ e k1 k2 ⟨x.a, x.b, x.c, x.d, x.l ++ [i]⟩ sl' → K w') :
    ldS ((⟨k2, 0, none⟩ : Addr).add 4) w fun s51 => ldI .i64 ⟨k9, 0, none⟩ w fun n52 => ldI .i64 ((⟨k9, 0, none⟩ : Addr).add 1) w fun n53 => newP #[.int .i64 n52, .int .i64 n53] 80 w fun a54 w55 =>
      apP Tryd.prog #[39, 39] 39 [.slice s51.a s51.l s51.c, .slice (some a54) 1 1] w55 fun s57 w56 => stP ((⟨k2, 0, none⟩ : Addr).add 4) (.slice s57.a s57.l s57.c) w56 fun w58 => K w58 := by
  have h1 := h.n1
  have h2 := h.n2
  have h3 := h.b0
  have hpl := h.p.below
  have hsl : sl.l = x.l.length := h.own.rdC.len
  refine ldS_b (s := sl) h.p rfl (ldI_b (o := 0) h9 rfl (ldI_b h9 rfl ?_))
  refine apB TIn rfl (by simp [Value.oneCell']) h.own (by omega) (by omega) fun s' w2 ho hl' hg => ?_
  have hg' : ∀ k, blkOf s' = some k → k2 < k := fun k hk => by
    rcases hg.blk k hk with h' | h'
    · exact h.g k h'
    · omega
  have old : ∀ k, k ≤ k2 → ¬ inL [blkOf sl] k := fun k hk hin => by
    have hin : some k = blkOf sl := hin
    have := h.g k hin.symm
    omega
  refine stB (h.p.ch hg.ch.1 (old _ (Nat.le_refl _))) (by simp) fun w3 hc3 hb3 hs3 => hK s' w3 ?_
  refine ⟨(h.rr.ch hg.ch.1 (old _ (by omega)) (fun hne k hk => old _ (by have := h.s0 hne k hk; omega))).ch hc3 (nin1 (by omega)) (fun hne k hk => nin1 (by have := h.s0 hne k hk; omega)),
    (h.z.ch hg.ch.1 (old _ (by omega))).ch hc3 (nin1 (by omega)), hb3, ?_, (h.ch.trO hg.ch.1 (fun k hk => by have := h.g k hk; omega)).trN hc3 (by omega), h.b0, h.s0, h.n1, h.n2, hg'⟩
  have := ho.ch hc3 (fun k hk => nin1 (by have := hg' k hk; omega))
  rw [flat_snoc]
  exact this
end
/-- One number of the head. -/
theorem GSr.one {w0 w : World} {b : Nat} {s : Slc} {bs : List UInt8} {at_ : Nat} {e : Int} {k1 k2 : Nat} {x : Pg} {sl : Slc} {most : Nat} {K : Int → World → Prop} (h : GSr w0 w b s bs at_ e k1 k2 x sl) (hm : most ≤ 256)
    (hK : ∀ w', GSr w0 w' b s bs (rUpto bs at_ e most).2.1 (rUpto bs at_ e most).2.2 k1 k2 x sl → IntKind.i64.wrap ((rUpto bs at_ e most).1 : Int) = ((rUpto bs at_ e most).1 : Int) → K ((rUpto bs at_ e most).1 : Int) w') : c_codec_Reader_Upto (some ⟨b, 0, none⟩) (most : Int) w K := by
  refine rupto_ok h.rr fun w' hr hc => hK w' (h.rd hr hc) ?_
  have := rUpto_most (bs := bs) (at_ := at_) (e := e) (most := most)
  rw [wrap_i64 (by omega)]
theorem GSr.st0 {w0 w : World} {b : Nat} {s : Slc} {bs : List UInt8} {at_ : Nat} {e : Int} {k1 k2 : Nat} {x : Pg} {sl : Slc} {v : Int} {K : World → Prop} (h : GSr w0 w b s bs at_ e k1 k2 x sl) (hK : ∀ w', GSr w0 w' b s bs at_ e k1 k2 { x with a := v } sl → K w') : stP ⟨k2, 0, none⟩ (.int .i64 v) w K :=
  stB (o := 0) h.p (by simp) fun w' hc hb _ => hK w' (h.st rfl hc hb)
theorem GSr.st1 {w0 w : World} {b : Nat} {s : Slc} {bs : List UInt8} {at_ : Nat} {e : Int} {k1 k2 : Nat} {x : Pg} {sl : Slc} {v : Int} {K : World → Prop} (h : GSr w0 w b s bs at_ e k1 k2 x sl) (hK : ∀ w', GSr w0 w' b s bs at_ e k1 k2 { x with b := v } sl → K w') : stP ((⟨k2, 0, none⟩ : Addr).add 1) (.int .i64 v) w K :=
  stB h.p (by simp) fun w' hc hb _ => hK w' (h.st rfl hc hb)
theorem GSr.st2 {w0 w : World} {b : Nat} {s : Slc} {bs : List UInt8} {at_ : Nat} {e : Int} {k1 k2 : Nat} {x : Pg} {sl : Slc} {v : Int} {K : World → Prop} (h : GSr w0 w b s bs at_ e k1 k2 x sl) (hK : ∀ w', GSr w0 w' b s bs at_ e k1 k2 { x with c := v } sl → K w') : stP ((⟨k2, 0, none⟩ : Addr).add 2) (.int .i64 v) w K :=
  stB h.p (by simp) fun w' hc hb _ => hK w' (h.st rfl hc hb)
theorem GSr.st3 {w0 w : World} {b : Nat} {s : Slc} {bs : List UInt8} {at_ : Nat} {e : Int} {k1 k2 : Nat} {x : Pg} {sl : Slc} {v : Int} {K : World → Prop} (h : GSr w0 w b s bs at_ e k1 k2 x sl) (hK : ∀ w', GSr w0 w' b s bs at_ e k1 k2 { x with d := v } sl → K w') : stP ((⟨k2, 0, none⟩ : Addr).add 3) (.int .i64 v) w K :=
  stB h.p (by simp) fun w' hc hb _ => hK w' (h.st rfl hc hb)
theorem GSr.blk9 {w0 w w' : World} {b : Nat} {s : Slc} {bs : List UInt8} {at_ : Nat} {e : Int} {k1 k2 k9 : Nat} {x : Pg} {sl : Slc} {cur : Array Value} {t : TypeId} (h : GSr w0 w b s bs at_ e k1 k2 x sl) (h9 : Blk w k9 cur t) (hk : k2 < k9) (hc : Chg (Of b) w w') : Blk w' k9 cur t := h9.chg hc (fun he => by
  have h1 := h.n1
  have h2 := h.n2
  have h3 := h.b0
  have he : k9 = b := he
  omega)
set_option maxRecDepth 20000 in
set_option maxHeartbeats 1000000 in
theorem get_ok {w : World} {b : Nat} {s : Slc} {bs : List UInt8} {at_ : Nat} {e : Int} {K : Int → Int → Int → Int → Slc → World → Prop} (h : Rr w b s bs at_ e) (hs : bs ≠ [] → Lt w.heap.size (blkOf s))
    (hK : ∀ sl w', Rr w' b s bs (rdT bs at_ e).2.1 (rdT bs at_ e).2.2 → Own w' 80 2 sl (flat (rdT bs at_ e).1.l) → Ch [some b] w w' → Ge w.heap.size (blkOf sl) → K (rdT bs at_ e).1.a (rdT bs at_ e).1.b (rdT bs at_ e).1.c (rdT bs at_ e).1.d sl w') : c_lang_Get (some ⟨b, 0, none⟩) w K := by
  refine sim_lang_Get ?_
  unfold sh_lang_Get
  have hb0 := h.blk.lt
  refine newB fun k1 w1 hc1 hb1 hk1 hs1 => ?_
  refine newB fun k2 w2 hc2 hb2 hk2 hs2 => ?_
  have g0 : GSr w w2 b s bs at_ e k1 k2 ⟨0, 0, 0, 0, []⟩ ⟨none, 0, 0⟩ := ⟨h.ch0 (hc1.tr hc2), hb1.ch0 hc2, hb2, Own.nil _ _ _, (Ch.refl _ _).tr0 (hc1.tr hc2), hb0, hs, by omega, by omega, fun k hk => by cases hk⟩
  clear hb1 hb2 hc1 hc2 hs1 hs2 hk1 hk2
  refine g0.one (most := 16) (by omega) fun w3 g1 e1 => ?_
  rw [e1]
  refine g1.st0 fun w4 g2 => ?_
  refine g2.one (most := 16) (by omega) fun w5 g3 e2 => ?_
  rw [e2]
  refine g3.st1 fun w6 g4 => ?_
  refine g4.one (most := 16) (by omega) fun w7 g5 e3 => ?_
  rw [e3]
  refine g5.st2 fun w8 g6 => ?_
  refine g6.one (most := 16) (by omega) fun w9 g7 e4 => ?_
  rw [e4]
  refine g7.st3 fun w10 g8 => ?_
  refine g8.one (most := 256) (by omega) fun w11 g9 e5 => ?_
  rw [e5]
  unfold rdT at hK
  dsimp only at hK
  generalize rUpto bs at_ e 16 = q1 at *
  generalize rUpto bs q1.2.1 q1.2.2 16 = q2 at *
  generalize rUpto bs q2.2.1 q2.2.2 16 = q3 at *
  generalize rUpto bs q3.2.1 q3.2.2 16 = q4 at *
  have hq5 := rUpto_most (bs := bs) (at_ := q4.2.1) (e := q4.2.2) (most := 256)
  generalize rUpto bs q4.2.1 q4.2.2 256 = q5 at *
  clear g0 g1 g2 g3 g4 g5 g6 g7 g8 e1 e2 e3 e4 e5
  dsimp only at hK g9
  refine ⟨fun _ w12 => ∃ sl, GSr w w12 b s bs (getN bs q5.1 q5.2.1 q5.2.2 []).2.1 (getN bs q5.1 q5.2.1 q5.2.2 []).2.2 k1 k2 ⟨q1.1, q2.1, q3.1, q4.1, (getN bs q5.1 q5.2.1 q5.2.2 []).1⟩ sl, ?_, ?_⟩
  rotate_left
  · refine loopP_inv (fun st w12 => ∃ (i at2 : Nat) (e2 : Int) (l : List (Int × Int)) (sl : Slc), st.1 = (i : Int) ∧ i ≤ q5.1 ∧ l.length = i ∧ GSr w w12 b s bs at2 e2 k1 k2 ⟨q1.1, q2.1, q3.1, q4.1, l⟩ sl ∧ getN bs (q5.1 - i) at2 e2 l = getN bs q5.1 q5.2.1 q5.2.2 []) (fun st _ => q5.1 - st.1.toNat)
      ⟨0, _, _, _, _, rfl, Nat.zero_le _, rfl, g9, rfl⟩ ?_
    rintro ⟨i0, u⟩ w12 next ⟨i, at2, e2, l, sl, rfl, hi, hli, g, hN⟩ hnext
    dsimp only
    have stop : (e2 ≠ 0 ∨ i = q5.1) → ∃ sl, GSr w w12 b s bs (getN bs q5.1 q5.2.1 q5.2.2 []).2.1 (getN bs q5.1 q5.2.1 q5.2.2 []).2.2 k1 k2 ⟨q1.1, q2.1, q3.1, q4.1, (getN bs q5.1 q5.2.1 q5.2.2 []).1⟩ sl := fun hst => by
      have : getN bs (q5.1 - i) at2 e2 l = (l, at2, e2) := by
        rcases hst with h | h
        · exact getN_stop h
        · rw [h, Nat.sub_self]; rfl
      rw [← hN, this]
      exact ⟨sl, g⟩
    refine iteB_intro (fun hlt => ?_) (fun hlt => stop (.inr (by simp at hlt; omega)))
    have hlt : i < q5.1 := by simp at hlt; omega
    have hN' : e2 = 0 → getN bs (q5.1 - (i + 1)) (getI bs at2 e2).2.1 (getI bs at2 e2).2.2 (l ++ [(getI bs at2 e2).1]) = getN bs q5.1 q5.2.1 q5.2.2 [] := fun h0 => by
      rw [← hN, show q5.1 - i = (q5.1 - (i + 1)) + 1 by omega]
      simp only [getN, if_pos h0]
    refine rerr_ok g.rr (iteB_intro (fun h0 => ?_) (fun h0 => stop (.inl (by simpa using h0))))
    obtain rfl : e2 = 0 := by simpa using h0
    have fin : ∀ (i9 : Int × Int) k9 w9, GSr w w9 b s bs (getI bs at2 0).2.1 (getI bs at2 0).2.2 k1 k2 ⟨q1.1, q2.1, q3.1, q4.1, l⟩ sl → i9 = (getI bs at2 0).1 → Blk w9 k9 #[.int .i64 i9.1, .int .i64 i9.2] 80 →
        ldS ((⟨k2, 0, none⟩ : Addr).add 4) w9 fun s51 => ldI .i64 ⟨k9, 0, none⟩ w9 fun n52 => ldI .i64 ((⟨k9, 0, none⟩ : Addr).add 1) w9 fun n53 => newP #[.int .i64 n52, .int .i64 n53] 80 w9 fun a54 w55 =>
      apP Tryd.prog #[39, 39] 39 [.slice s51.a s51.l s51.c, .slice (some a54) 1 1] w55 fun s57 w56 => stP ((⟨k2, 0, none⟩ : Addr).add 4) (.slice s57.a s57.l s57.c) w56 fun w58 => next ((IntKind.i64.wrap ((i : Int) + 1)), ()) w58 := fun i9 k9 w9 g9 hi9 h9 => by
      refine g9.app h9 (by simp only []; omega) fun sl' w10 g10 => ?_
      rw [wrap_i64 (by omega)]
      refine hnext _ _ ⟨i + 1, _, _, l ++ [i9], sl', by simp, hlt, by simp [hli], g10, ?_⟩ (by simp; omega)
      rw [hi9]; exact hN' rfl
    unfold getI at fin
    refine rbyte_ok g.rr fun w13 hr13 hc13 => ?_
    replace g := g.rd hr13 hc13
    have hc8 : ((rRaw bs at2 0 1).1.getD 0 0).toNat < 256 := ((rRaw bs at2 0 1).1.getD 0 0).toNat_lt
    generalize ((rRaw bs at2 0 1).1.getD 0 0).toNat = c at *
    generalize (rRaw bs at2 0 1).2.1 = a3 at *
    generalize (rRaw bs at2 0 1).2.2 = e3 at *
    have hand : IntKind.i64.wrap (bAnd .u8 (c : Int) 63) = ((c % 64 : Nat) : Int) := by
      have h : ∀ m : Fin 256, bAnd .u8 (m.val : Int) 63 = ((m.val % 64 : Nat) : Int) := by decide +kernel
      rw [h ⟨c, hc8⟩]; simp only []; rw [wrap_i64 (by omega)]
    rw [hand]
    refine newIn fun k9 w14 hc14 hb14 hk14 hs14 => ?_
    have hpb := g.p.below
    have hsb := g.own.ltS
    have hk9 : k2 < k9 := by omega
    have hsl9 : blkOf sl ≠ some k9 := fun he => by have := hsb k9 he; omega
    replace g := g.new hc14
    refine ⟨fun _ w15 => GSr w w15 b s bs a3 (if e3 = 0 ∧ (c ≥ 128 ∨ c % 64 ≥ 37) then 31 else e3) k1 k2 ⟨q1.1, q2.1, q3.1, q4.1, l⟩ sl ∧ Blk w15 k9 #[.int .i64 ((c % 64 : Nat) : Int), .int .i64 0] 80, ?_, ?_⟩
    rotate_left
    · refine rerr_ok g.rr (iteB_intro (fun h0 => ?_) (fun h0 => ?_))
      · obtain rfl : e3 = 0 := by simpa using h0
        have bad : (c ≥ 128 ∨ c % 64 ≥ 37) → ∀ w15, Rr w15 b s bs a3 (rFail 0 31) → Chg (Of b) w14 w15 → GSr w w15 b s bs a3 (if (0 : Int) = 0 ∧ (c ≥ 128 ∨ c % 64 ≥ 37) then 31 else 0) k1 k2 ⟨q1.1, q2.1, q3.1, q4.1, l⟩ sl ∧ Blk w15 k9 #[.int .i64 ((c % 64 : Nat) : Int), .int .i64 0] 80 := fun hbad w15 hr15 hc15 => by
          rw [if_pos ⟨rfl, hbad⟩]
          exact ⟨g.rd hr15 hc15, g.blk9 hb14 hk9 hc15⟩
        refine iteB_intro (fun h1 => rfail_ok g.rr (bad (.inl (by simp at h1; omega)))) (fun h1 => ?_)
        refine ldI_b (o := 0) hb14 rfl (iteB_intro (fun h2 => rfail_ok g.rr (bad (.inr (by simp at h2; omega)))) (fun h2 => ?_))
        rw [if_neg (by simp at h1 h2; omega)]
        exact ⟨g, hb14⟩
      · rw [if_neg (fun hh => by simp at h0; exact h0 hh.1)]
        exact ⟨g, hb14⟩
    clear g hb14 hc14 hs14 hr13 hc13 hsb hpb
    rintro _ w15 ⟨g, hb15⟩
    have eI : getI' bs c a3 e3 = if c ≥ 64 then ((((c % 64 : Nat) : Int), unz (rUpto bs a3 (if e3 = 0 ∧ (c ≥ 128 ∨ c % 64 ≥ 37) then 31 else e3) 18446744073709551615).1), (rUpto bs a3 (if e3 = 0 ∧ (c ≥ 128 ∨ c % 64 ≥ 37) then 31 else e3) 18446744073709551615).2.1, if (rUpto bs a3 (if e3 = 0 ∧ (c ≥ 128 ∨ c % 64 ≥ 37) then 31 else e3) 18446744073709551615).2.2 = 0 ∧ unz (rUpto bs a3 (if e3 = 0 ∧ (c ≥ 128 ∨ c % 64 ≥ 37) then 31 else e3) 18446744073709551615).1 = 0 then 11 else (rUpto bs a3 (if e3 = 0 ∧ (c ≥ 128 ∨ c % 64 ≥ 37) then 31 else e3) 18446744073709551615).2.2) else ((((c % 64 : Nat) : Int), 0), a3, if e3 = 0 ∧ (c ≥ 128 ∨ c % 64 ≥ 37) then 31 else e3) := rfl
    generalize (if e3 = 0 ∧ (c ≥ 128 ∨ c % 64 ≥ 37) then (31 : Int) else e3) = e4 at *
    refine ⟨fun _ w16 => GSr w w16 b s bs (getI' bs c a3 e3).2.1 (getI' bs c a3 e3).2.2 k1 k2 ⟨q1.1, q2.1, q3.1, q4.1, l⟩ sl ∧ Blk w16 k9 #[.int .i64 (getI' bs c a3 e3).1.1, .int .i64 (getI' bs c a3 e3).1.2] 80, ?_, ?_⟩
    rotate_left
    · rw [eI]
      refine iteB_intro (fun h => ?_) (fun h => ?_)
      · rw [if_pos (by simp at h; omega)]
        refine rint_ok g.rr fun w16 hr16 hc16 => ?_
        replace hb15 := g.blk9 hb15 hk9 hc16
        replace g := g.rd hr16 hc16
        generalize rUpto bs a3 e4 18446744073709551615 = q at *
        refine stB hb15 (by simp) fun w17 hc17 hb17 hs17 => ?_
        replace g := g.over hc17 hk9 hsl9
        refine rerr_ok g.rr (iteB_intro (fun h0 => ?_) (fun h0 => ?_))
        · refine ldI_b hb17 rfl (iteB_intro (fun h1 => rfail_ok g.rr fun w18 hr18 hc18 => ?_) (fun h1 => ?_))
          · rw [if_pos ⟨by simpa using h0, by simpa using h1⟩]
            have ef : rFail q.2.2 11 = 11 := by unfold rFail; rw [if_pos (by simpa using h0)]
            rw [ef] at hr18
            exact ⟨g.rd hr18 hc18, g.blk9 hb17 hk9 hc18⟩
          · rw [if_neg (fun hh => by simp at h1; exact h1 hh.2)]; exact ⟨g, hb17⟩
        · rw [if_neg (fun hh => by simp at h0; exact h0 hh.1)]; exact ⟨g, hb17⟩
      · rw [if_neg (by simp at h; omega)]; exact ⟨g, hb15⟩
    rintro _ w16 ⟨g, hb16⟩
    exact fin _ k9 w16 g rfl hb16
  · rintro _ w12 ⟨sl, g⟩
    have n1 := g.n1
    have n2 := g.n2
    have hb := g.b0
    have eN : ∀ sl' w', Rr w' b s bs (getN bs q5.1 q5.2.1 q5.2.2 []).2.1 (getN bs q5.1 q5.2.1 q5.2.2 []).2.2 → Ch [some b] w w' → ((getN bs q5.1 q5.2.1 q5.2.2 []).2.2 = 0 → Own w' 80 2 sl' (flat (getN bs q5.1 q5.2.1 q5.2.2 []).1) → Ge w.heap.size (blkOf sl') → K q1.1 q2.1 q3.1 q4.1 sl' w') ∧ ((getN bs q5.1 q5.2.1 q5.2.2 []).2.2 ≠ 0 → K 0 0 0 0 ⟨none, 0, 0⟩ w') := fun sl' w' hr hc => by
      refine ⟨fun h0 ho hg => ?_, fun h0 => ?_⟩
      · rw [if_pos h0] at hK; exact hK sl' w' hr ho hc hg
      · rw [if_neg h0] at hK; exact hK _ w' hr (Own.nil _ _ _) hc (fun k hk => by cases hk)
    generalize getN bs q5.1 q5.2.1 q5.2.2 [] = gg at *
    clear hK
    refine rerr_ok g.rr ?_
    refine iteB_intro (fun h0 => ?_) (fun h0 => ?_)
    · refine stPr g.z fun w13 hc13 hb13 hs13 => ?_
      refine ldPr (s := ⟨none, 0, 0⟩) hb13 ?_
      exact (eN ⟨none, 0, 0⟩ w13 (g.rr.ch hc13 (nin1 (by omega)) (fun hne k hk => nin1 (by have := g.s0 hne k hk; omega))) (g.ch.trN hc13 (by omega))).2 (by simpa using h0)
    · refine ldPr (s := sl) g.p ?_
      refine stPr g.z fun w13 hc13 hb13 hs13 => ?_
      refine ldPr (s := sl) hb13 ?_
      exact (eN sl w13 (g.rr.ch hc13 (nin1 (by omega)) (fun hne k hk => nin1 (by have := g.s0 hne k hk; omega))) (g.ch.trN hc13 (by omega))).1 (by simpa using h0) (g.own.ch hc13 (fun k hk => nin1 (by have := g.g k hk; omega))) (fun k hk => by have := g.g k hk; omega)
end Go.Proofs.YtgpdecfcjpblgaaDoor
