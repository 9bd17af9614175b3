/- Accepts: the law BatchAccepts. -/
import Derived.Test.YtlnhecbgjjglfaaDoorWork
import Derived.Test.YtlnhecbgjjglfaaDoorTold
import Derived.Test.YtlnhecbgjjglfaaDoorRepB
set_option linter.unusedVariables false
set_option linter.unusedSimpArgs false
namespace Go.Proofs.YtlnhecbgjjglfaaDoor
open Go Go.Sh Go.Pl Go.RowKit Go.Num Go.Gt
theorem copyB {x : Slc} {bs : List UInt8} {w : World} {K : Slc → World → Prop} (hx : Rd w x (U8 bs)) (hxn : x.a = none → x.l = 0 ∧ x.c = 0) (hl : bs.length ≤ 140737488351232)
    (hK : ∀ s w', Own w' 5 1 s (U8 bs) → Ch [] w w' → Ge w.heap.size (blkOf s) → K s w') :
    newP #[] 5 w fun a1 w2 => apP Tryd.prog #[23, 23] 23 [.slice (some a1) 0 0, .slice x.a x.l x.c] w2 K := by
  refine newB fun k w1 hc1 hb1 hk1 hs1 => ?_
  have lx := hx.len
  rw [U8_length] at lx
  have hown : Own w1 5 1 ⟨some ⟨k, 0, none⟩, 0, 0⟩ [] := ⟨by simp, .inr ⟨k, 0, #[], rfl, Nat.zero_le _, hb1, Nat.le_refl _, by unfold maxLen; omega, by simp, by simp⟩⟩
  refine apO TU8 (s := ⟨some ⟨k, 0, none⟩, 0, 0⟩) hown (hx.ch0 hc1) hxn (U8_one _) (by simp only []; omega) (by simp only []; omega) fun s' w2 ho hl2 hg => ?_
  obtain ⟨hc2, hf⟩ := hg.ch
  refine hK s' w2 (by simpa using ho) (hc1.trO hc2 fun j hj => by have hj : some k = some j := hj; cases hj; omega) fun j hj => ?_
  rcases hf j hj with g | g
  · have g : some k = some j := g
    cases g; omega
  · omega
theorem ch_below {w w' : World} (h : Below w.heap.size w w') : Ch [] w w' := ⟨h.os, h.tape, h.output, h.size, fun k hk _ => h.block k hk⟩
/-- The cell of the library's variable that errors.As reads. -/
def Hd (w : World) : Prop := w.cell? ⟨0, 0, none⟩ = some (.iface 114 (.agg #[.pointer (some ⟨1, 27, none⟩)]))
theorem Hd.ch0 {w w' : World} (h : Hd w) (hc : Ch [] w w') : Hd w' := cell_chg (show Chg Nil w w' from hc) h fun h => h
theorem told0 {w : World} {K : Bool → Int → Int → World → Prop} (hK : K false 0 0 w) : c_preludelaw06_told .nilIface w K := by
  refine Calls.mono (told_nil w) fun e w' hh => ?_
  obtain ⟨rfl, rfl⟩ := hh
  exact ⟨_, _, _, rfl, hK⟩
theorem toldB {w : World} {k : Nat} {at_ n : Int} {K : Bool → Int → Int → World → Prop} (hg : Hd w) (hb : Blk w k #[.int .i64 at_, .iface 43 (.int .i64 n)] 48) (hK : ∀ w', Ch [] w w' → K true at_ n w') : c_preludelaw06_told (.iface 46 (.pointer (some ⟨k, 0, none⟩))) w K := by
  refine Calls.mono (told_byte k at_ n w hg (by rw [hb.cell]; rfl) (by rw [hb.cell]; rfl)) fun e w' hh => ?_
  obtain ⟨rfl, h⟩ := hh
  exact ⟨_, _, _, rfl, hK w' (show Chg Nil w w' from h)⟩
theorem toldT {w : World} {k : Nat} {at_ n : Int} {K : Bool → Int → Int → World → Prop} (hg : Hd w) (hb : Blk w k #[.int .i64 at_, .iface 43 (.int .i64 n)] 53) (hK : ∀ w', Ch [] w w' → K false at_ n w') : c_preludelaw06_told (.iface 51 (.pointer (some ⟨k, 0, none⟩))) w K := by
  refine Calls.mono (told_tx k at_ n w hg (by rw [hb.cell]; rfl) (by rw [hb.cell]; rfl)) fun e w' hh => ?_
  obtain ⟨rfl, h⟩ := hh
  exact ⟨_, _, _, rfl, hK w' (show Chg Nil w w' from h)⟩
theorem few_of {bs : List UInt8} : ∀ x ∈ (decB bs).1, x.args.length ≤ 1000000 ∧ x.reads.length ≤ 1000000 ∧ x.writes.length ≤ 1000000 := fun x hx => by
  have h := ((decB_ok bs).2 x hx).1
  have h1 := h.a
  have h2 := h.r
  have h3 := h.w
  omega
set_option maxHeartbeats 1000000 in
theorem law_BatchAccepts {s x : Slc} {ms : Mo libG} {bs : List UInt8} {w : World} (hg : Hd w) (k0 : Gt.Rep reachBytes w libG [.slice s.a s.l s.c] ms) (r1 : Rd w x (U8 bs)) (n1 : x.a = none → x.l = 0 ∧ x.c = 0) (z1 : x.c ≤ reachBytes) : c_preludelaw06_BatchAccepts s x w fun r w' => r = true ∧ Chg Nil w w' := by
  refine sim_preludelaw06_BatchAccepts ?_
  unfold sh_preludelaw06_BatchAccepts
  obtain ⟨hL, bigL, hll⟩ := rep_lp (Nat.le_refl _) k0
  have hre : reachBytes = 140737488351232 := rfl
  have lx := r1.len
  rw [U8_length] at lx
  have cx := r1.cap
  have hbl : bs.length ≤ 140737488351232 := by omega
  have hdk := decB_ok bs
  generalize lpOf ms = ps at *
  refine partsL_ok hL bigL hll (by omega) fun p1 w1 hc1 hp1 => ?_
  refine iteB_dec (fun h => ⟨rfl, hc1⟩) (fun h => ?_)
  refine copyB (r1.ch0 hc1) n1 hbl fun s2 w2 ho2 hc2 hg2 => ?_
  have hcw2 := hc1.tr hc2
  refine accept_ok (hL.ch0 hcw2) ho2.rd hbl fun s3 v3 w3 hA hc3 => ?_
  have hcw3 := hcw2.tr hc3
  have z3 := hcw3.size
  refine rbdec_ok (r1.ch0 hcw3) (fun k hk hne => by have := r1.lt (by intro h; apply hne; cases bs with | nil => rfl | cons a b => simp [U8] at h) k hk; omega) hbl fun s4 ts4 w4 hD4 he4 hc4 => ?_
  have hcw4 := hcw3.tr hc4
  have hb4 : RdB w4 s4 (decB bs).1 := by have := hD4.rdB; rwa [he4] at this
  cases hA with
  | bytes k h5 hb5 =>
    refine toldB ((hg.ch0 hcw4)) (hb5.ch0 hc4) fun w5 hc5 => ?_
    have hcw5 := hcw4.tr hc5
    refine iteB_pos (by simpa using h5) (iteB_pos rfl (iteB_pos rfl (iteB_pos (by simp) ⟨by simp, hcw5⟩)))
  | tx k h5 h6 hb5 =>
    refine toldT ((hg.ch0 hcw4)) (hb5.ch0 hc4) fun w5 hc5 => ?_
    have hcw5 := hcw4.tr hc5
    refine iteB_neg (by simpa using h5) ?_
    refine rcheck_ok (hL.ch0 hcw5) (hb4.ch0 hc5) fun w6 hc6 => ?_
    have hcw6 := hcw5.tr hc6
    refine iteB_pos (by simpa using h6) (iteB_pos rfl (iteB_pos rfl (iteB_pos (by simp) ⟨by simp, hcw6⟩)))
  | ok _ ts h5 h6 hD he =>
    refine told0 ?_
    refine iteB_neg (by simpa using h5) ?_
    refine rcheck_ok (hL.ch0 hcw4) hb4 fun w6 hc6 => ?_
    have hcw6 := hcw4.tr hc6
    refine iteB_neg (by simpa using h6) ?_
    simp only [nilI]
    refine iteB_pos rfl ?_
    have hb3 : RdB w6 s3 (decB bs).1 := by have := ((hD.ch0 hc4).ch0 hc6).rdB; rwa [he] at this
    refine sameBatch_ok hb3 (hb4.ch0 hc6) (by omega) few_of fun w7 hc7 => ⟨rfl, hcw6.tr hc7⟩
end Go.Proofs.YtlnhecbgjjglfaaDoor
